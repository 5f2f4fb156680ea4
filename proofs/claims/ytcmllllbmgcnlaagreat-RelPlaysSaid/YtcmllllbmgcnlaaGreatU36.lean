/- Own texts, joined and cut to what the claim stands on: RlPuts, RlDoes3, RlDoes4, RlPlays0, RlMade2, RlOpen3. -/
import Derived.Deep.RegionHeld3
import Derived.BigRegion
import Derived.Test.YtcmllllbmgcnlaaGreatU35
import Derived.Test.YtcmllllbmgcnlaaGreatU34
import Derived.Test.YtcmllllbmgcnlaaGreatU28
import Derived.Test.YtcmllllbmgcnlaaGreatU31
section
namespace Go.Proofs.YtcmllllbmgcnlaaGreat.Rl
open Go.RowKit Go.Lib Go.Shelf Go.Proofs.YtcmllllbmgcnlaaGreat.G Go.Proofs.YtcmllllbmgcnlaaGreat.Tup Go.Proofs.YtcmllllbmgcnlaaGreatW.PrintWords Go.Proofs.YtcmllllbmgcnlaaGreatW.PrintLast Go.Proofs.YtcmllllbmgcnlaaGreatW.PrintMore
set_option linter.unusedVariables false
set_option linter.unusedSimpArgs false
theorem Duo.put_box {W0 W V : World} {bw i i' bs bo : Nat} {X Y P Q : ST} (h : Duo W0 W bw i i' bs bo X Y P Q) (hs : Since W V) {At : Option Addr} {ct : Nat} {t : Tp} (st : Sl W0 At ct t) (n : Int × Int) (h1 : rightB n.1 = true) (h2 : rightB n.2 = true) :
  Calls Tryz.prog 13 #[.pointer (some ⟨bs, 0, none⟩), .complex .f64 (nf n.1) (nf n.2), .slice At t.length ct] V fun e w' => e = .returned (.tuple #[.bool (putAns X.1 X.2 t).1, .int .i64 (putAns X.1 X.2 t).2]) ∧ Duo W0 w' bw i i' bs bo (X.1, putTo X.1 X.2 t n) Y P Q ∧ ∀ k, W.heap.size ≤ k → k < V.heap.size → w'.heap[k]? = V.heap[k]? := by
 obtain ⟨F1, F2, G1, G2, e1, e2, ⟨A, c, es, e3⟩, ⟨A', c', es', e4⟩, e5⟩ := h.ex
 have hV := h.since hs
 refine (((e1.since hs).mono fun k hk => .inl hk : RelF (Plus F1 V.heap.size) V bs X.1 X.2).put (fun k hk => .inr hk) n h1 h2 At ct t (fun w' hk => st.below (hk.below_of hV.low fun k hk hF => hF.elim (fun hF => by have := (e5.f1 k hF).1; omega) fun hF => by have := e5.w; have := hs.b.size; omega))).mono fun e w' hp => ⟨hp.1, hV.rel (e2.since hs) ⟨A, c, es, e3.since hs⟩ ⟨A', c', es', e4.since hs⟩ (e5.size hs.b.size) hp.2.1 hp.2.2, fun k ha hk => hp.2.2.same k hk fun hF => hF.elim (fun hF => by have := (e5.f1 k hF).1; omega) fun hF => by omega⟩
theorem noteF_not {h k : Int} (hn : ¬ (rightB h = true ∧ rightB k = true)) : noteF h k = ((0, 0), 1) := by
 unfold noteF
 rw [if_neg (by simpa using hn)]
set_option maxHeartbeats 8000000 in
set_option maxRecDepth 100000 in
theorem puts_calls (W0 W : World) (bw i i' bs bo : Nat) {X Y : ST} (h : Duo W0 W bw i i' bs bo X Y X Y) (K On k H Ru : Int) (At : Option Addr) (ct : Nat) (t : Tp) (hk : Sl W0 At ct t) :
  Calls Tryz.prog 59 #[.pointer (some ⟨bs, 0, none⟩), .pointer (some ⟨bw, 2 + 2 * i, none⟩), .agg #[.int .i64 K, .int .i64 On, .int .i64 k, .int .i64 H, .int .i64 Ru, .slice At t.length ct]] W (DoesR W0 bw i i' bs bo) := by
 obtain ⟨V, hV⟩ : ∃ V, V = W.alloc (.cells #[.int .i64 K, .int .i64 On, .int .i64 k, .int .i64 H, .int .i64 Ru, .slice At t.length ct] 85) := ⟨_, rfl⟩
 have hs : Since W V := by rw [hV]; exact (Since.refl W).alloc _
 have hbx : V.heap[W.heap.size]? = some (.cells #[.int .i64 K, .int .i64 On, .int .i64 k, .int .i64 H, .int .i64 Ru, .slice At t.length ct] 85 (0, 0)) := by rw [hV]; exact heap_alloc_new W _
 obtain ⟨B, hB⟩ : ∃ B, B = W.heap.size := ⟨_, rfl⟩
 rw [← hB] at hbx
 have hBV : W.heap.size ≤ B ∧ B < V.heap.size := ⟨by omega, (Array.getElem?_eq_some_iff.1 hbx).1⟩
 have v3 : V.cell? ⟨B, 3, none⟩ = some (.int .i64 H) := (Tup.cell_of_heap hbx 3).trans rfl
 have v4 : V.cell? ⟨B, 4, none⟩ = some (.int .i64 Ru) := (Tup.cell_of_heap hbx 4).trans rfl
 have v5 : V.cell? ⟨B, 5, none⟩ = some (.slice At t.length ct) := (Tup.cell_of_heap hbx 5).trans rfl
 have HN := Aside0.mk (fun w => note_calls w H Ru)
 have HRH := Aside0.mk (fun w => right_calls w H)
 have HRR := Aside0.mk (fun w => right_calls w Ru)
 have HD := Aside0.mk (h.since hs)
 by_cases hr : rightB H = true ∧ rightB Ru = true
 ·have hPu := h.put_box hs hk (H, Ru) hr.1 hr.2
  have HPq := Aside0.mk (fun (w : World) (hd : Duo W0 w bw i i' bs bo (X.1, putTo X.1 X.2 t (H, Ru)) Y X Y) => hd.rput hk (H, Ru) hr.1 hr.2)
  have e1 : (noteF H Ru).1 = (nf H, nf Ru) := noteF_right hr.1 hr.2
  have e2 : (noteF H Ru).2 = 0 := by unfold noteF; rw [hr.1, hr.2]; rfl
  rw [e1, e2] at HN
  rw [hr.1] at HRH
  rw [hr.2] at HRR
  have HPu := Aside0.mk hPu
  have HBK := Aside0.mk (And.intro hBV (And.intro hbx rfl : _ ∧ True = True))
  obtain ⟨qb, hqb⟩ : ∃ q, q = (putAns X.1 X.2 t).1 := ⟨_, rfl⟩
  obtain ⟨qe, hqe⟩ : ∃ q, q = (putAns X.1 X.2 t).2 := ⟨_, rfl⟩
  rw [← hqb, ← hqe] at HPu HPq
  have zz : (qe == qe) = true := by simp
  have zb : (qb == qb) = true := by simp
  clear h hk hs hbx hBV hr hPu e1 e2 hqb hqe v3 v4 v5
  subst hB hV
  go_enter Tryz.func59, Tryz.ntmps59
  go_wp2_with (first
   | (go_at_call 18; (refine (HN.out _).mono ?_); rintro e w1 ⟨rfl, hw1⟩; subst hw1)
   | (go_at_call 19; (with_reducible refine (HRH.out _).mono ?_); rintro e w1 ⟨rfl, hw1⟩; subst hw1)
   | (go_at_call 19; (with_reducible refine (HRR.out _).mono ?_); rintro e w1 ⟨rfl, hw1⟩; subst hw1)
   | (go_at_call 13; go_loud (refine HPu.out.mono ?_); clear HPu; rintro e w4 ⟨rfl, hD4, hB4⟩; have HD4 := Aside0.mk hD4; have hbx4 := (hB4 W.heap.size HBK.out.1.1 HBK.out.1.2).trans HBK.out.2.1; have y3 : w4.cell? ⟨W.heap.size, 3, none⟩ = some (.int .i64 H) := (Tup.cell_of_heap hbx4 3).trans rfl; have y4 : w4.cell? ⟨W.heap.size, 4, none⟩ = some (.int .i64 Ru) := (Tup.cell_of_heap hbx4 4).trans rfl; have y5 : w4.cell? ⟨W.heap.size, 5, none⟩ = some (.slice At t.length ct) := (Tup.cell_of_heap hbx4 5).trans rfl; clear hD4 hB4 hbx4)
   | (go_at_call 27; go_loud (refine (HPq.out _ HD4.out).mono ?_); clear HPq; rintro e w5 ⟨rfl, hD5⟩; have HD5 := Aside0.mk hD5; clear hD5))
  go_ret
  exact ⟨by simp, _, _, HD5.out⟩
 ·rw [noteF_not hr] at HN
  obtain ⟨p1, hp1⟩ : ∃ p, p = rightB H := ⟨_, rfl⟩
  obtain ⟨p2, hp2⟩ : ∃ p, p = rightB Ru := ⟨_, rfl⟩
  rw [← hp1] at HRH hr
  rw [← hp2] at HRR hr
  clear h hk hs hbx hBV hp1 hp2 v3 v4 v5
  subst hB hV
  cases p1
  ·clear hr
   go_enter Tryz.func59, Tryz.ntmps59
   go_wp2_with (first
    | (go_at_call 18; (refine (HN.out _).mono ?_); rintro e w1 ⟨rfl, hw1⟩; subst hw1)
    | (go_at_call 19; (with_reducible refine (HRH.out _).mono ?_); rintro e w1 ⟨rfl, hw1⟩; subst hw1))
   go_ret
   exact ⟨rfl, _, _, HD.out⟩
  ·cases p2
   ·clear hr
    go_enter Tryz.func59, Tryz.ntmps59
    go_wp2_with (first
     | (go_at_call 18; (refine (HN.out _).mono ?_); rintro e w1 ⟨rfl, hw1⟩; subst hw1)
     | (go_at_call 19; (with_reducible refine (HRH.out _).mono ?_); rintro e w1 ⟨rfl, hw1⟩; subst hw1)
     | (go_at_call 19; (with_reducible refine (HRR.out _).mono ?_); rintro e w1 ⟨rfl, hw1⟩; subst hw1))
    go_ret
    exact ⟨rfl, _, _, HD.out⟩
   ·exact absurd ⟨rfl, rfl⟩ hr
theorem act_box (W : World) (K On k H Ru : Int) (At : Option Addr) (ct : Nat) (t : Tp) : ∃ V B, V = W.alloc (.cells #[.int .i64 K, .int .i64 On, .int .i64 k, .int .i64 H, .int .i64 Ru, .slice At t.length ct] 85) ∧ B = W.heap.size ∧ Since W V ∧ ∀ w', Since V w' → (w'.cell? ⟨B, 0, none⟩ = some (.int .i64 K) ∧ w'.cell? ⟨B, 1, none⟩ = some (.int .i64 On) ∧ w'.cell? ⟨B, 2, none⟩ = some (.int .i64 k) ∧ w'.cell? ⟨B, 3, none⟩ = some (.int .i64 H) ∧ w'.cell? ⟨B, 4, none⟩ = some (.int .i64 Ru) ∧ w'.cell? ⟨B, 5, none⟩ = some (.slice At t.length ct)) := by
 refine ⟨_, _, rfl, rfl, (Since.refl W).alloc _, fun w' hs => ?_⟩
 have hbx := heap_alloc_new W (.cells #[.int .i64 K, .int .i64 On, .int .i64 k, .int .i64 H, .int .i64 Ru, .slice At t.length ct] 85)
 exact ⟨pw_cell_below hs.b ((Tup.cell_of_heap hbx 0).trans rfl), pw_cell_below hs.b ((Tup.cell_of_heap hbx 1).trans rfl), pw_cell_below hs.b ((Tup.cell_of_heap hbx 2).trans rfl), pw_cell_below hs.b ((Tup.cell_of_heap hbx 3).trans rfl), pw_cell_below hs.b ((Tup.cell_of_heap hbx 4).trans rfl), pw_cell_below hs.b ((Tup.cell_of_heap hbx 5).trans rfl)⟩
set_option maxHeartbeats 16000000 in
set_option maxRecDepth 100000 in
theorem does_has (W0 W : World) (bw i i' bs bo : Nat) {X Y : ST} (h : Duo W0 W bw i i' bs bo X Y X Y) (K On k H Ru : Int) (At : Option Addr) (ct : Nat) (t : Tp) (hk : Sl W0 At ct t) (hz : t.length * 8 ≤ 140737488351232) (hOn : bits BinOp.and IntKind.i64 On 1 = (i : Int)) (hK : (Int.tmod (wrap64 (Int.tmod K 8 + 8)) 8) = 1) :
  Calls Tryz.prog 34 #[.pointer (some ⟨bw, 0, none⟩), .agg #[.int .i64 K, .int .i64 On, .int .i64 k, .int .i64 H, .int .i64 Ru, .slice At t.length ct]] W (DoesR W0 bw i i' bs bo) := by
 obtain ⟨V, B, hV, hB, hs, hkp⟩ := act_box W K On k H Ru At ct t
 have HKP := Aside0.mk hkp
 have HVV := Aside0.mk (And.intro hV hB)
 have hD := h.since hs
 have cs := hD.cs
 have HV := Aside0.mk hD
 obtain ⟨q, hq⟩ : ∃ q, q = ratL (plainO X.1) (keys X.2) t := ⟨_, rfl⟩
 obtain ⟨th, hth⟩ : ∃ th, th = decide (t ∈ keys X.2) := ⟨_, rfl⟩
 have HAt := Aside0.mk (fun (w2 : World) (hs : Since V w2) => (HV.out.since hs).at hk)
 rw [← hq, ← hth] at HAt
 obtain ⟨v0, v1, v2, v3, v4, v5⟩ := HKP.out V (Since.refl V)
 have HHs := Aside0.mk (fun (w2 : World) (hs : Since V w2) => (HV.out.since hs).has hk)
 rw [← hth] at HHs
 rcases h.ii with ⟨rfl, rfl⟩ | ⟨rfl, rfl⟩
 all_goals
  clear h hs hV hB hkp hq hD hth hz hk
  go_enter Tryz.func34, Tryz.ntmps34
  go_wp2
  rw [← HVV.out.1]
  rw [← HVV.out.2]
  go_region
  all_goals go_wp2_with (first
   | (go_at_call 56; go_loud (refine (HAt.out _ ((Since.refl V).drew)).mono ?_); rintro e w1 ⟨rfl, hs1⟩; have HS1 := Aside0.mk ((Since.refl V).drew.trans hs1); obtain ⟨y0, y1, y2, y3, y4, y5⟩ := HKP.out w1 HS1.out; have hD1 := HV.out.since HS1.out; have co1 := hD1.co; have cs1 := hD1.cs; clear hD1; clear hs1)
   | (go_at_call 16; go_loud (refine (HHs.out _ HS1.out).mono ?_); rintro e w2 ⟨rfl, hs2⟩; have HS2 := Aside0.mk (HS1.out.trans hs2); clear hs2))
  go_ret
  exact ⟨by simp, X, Y, HV.out.since HS2.out⟩
set_option maxHeartbeats 16000000 in
set_option maxRecDepth 100000 in
theorem does_put0 (W0 W : World) (bw i i' bs bo : Nat) {X Y : ST} (h : Duo W0 W bw i i' bs bo X Y X Y) (K On k H Ru : Int) (At : Option Addr) (ct : Nat) (t : Tp) (hk : Sl W0 At ct t) (hz : t.length * 8 ≤ 140737488351232) (hOn : bits BinOp.and IntKind.i64 On 1 = (i : Int)) (hK : (Int.tmod (wrap64 (Int.tmod K 8 + 8)) 8) = 0) :
  Calls Tryz.prog 34 #[.pointer (some ⟨bw, 0, none⟩), .agg #[.int .i64 K, .int .i64 On, .int .i64 k, .int .i64 H, .int .i64 Ru, .slice At t.length ct]] W (DoesR W0 bw i i' bs bo) := by
 obtain ⟨V, B, hV, hB, hs, hkp⟩ := act_box W K On k H Ru At ct t
 have HKP := Aside0.mk hkp
 have HVV := Aside0.mk (And.intro hV hB)
 have hD := h.since hs
 have cs := hD.cs
 have HV := Aside0.mk hD
 obtain ⟨q, hq⟩ : ∃ q, q = ratL (plainO X.1) (keys X.2) t := ⟨_, rfl⟩
 obtain ⟨th, hth⟩ : ∃ th, th = decide (t ∈ keys X.2) := ⟨_, rfl⟩
 have HAt := Aside0.mk (fun (w2 : World) (hs : Since V w2) => (HV.out.since hs).at hk)
 rw [← hq, ← hth] at HAt
 obtain ⟨v0, v1, v2, v3, v4, v5⟩ := HKP.out V (Since.refl V)
 rcases h.ii with ⟨rfl, rfl⟩ | ⟨rfl, rfl⟩
 all_goals
  clear h hs hV hB hkp hq hD hth hz
  go_enter Tryz.func34, Tryz.ntmps34
  go_wp2
  rw [← HVV.out.1]
  rw [← HVV.out.2]
  go_region
  all_goals go_wp2_with (first
   | (go_at_call 56; go_loud (refine (HAt.out _ ((Since.refl V).drew)).mono ?_); rintro e w1 ⟨rfl, hs1⟩; have HS1 := Aside0.mk ((Since.refl V).drew.trans hs1); obtain ⟨y0, y1, y2, y3, y4, y5⟩ := HKP.out w1 HS1.out; have hD1 := HV.out.since HS1.out; have co1 := hD1.co; have cs1 := hD1.cs; clear hD1; clear hs1)
   | (go_at_call 59; go_loud (refine (puts_calls W0 _ bw _ _ bs bo (HV.out.since HS1.out) K On k H Ru At ct t hk).mono ?_); rintro e w2 ⟨rfl, X2, Y2, hD2⟩; have HD2 := Aside0.mk hD2; clear hD2))
  go_ret
  exact ⟨rfl, X2, Y2, HD2.out⟩
set_option maxHeartbeats 16000000 in
set_option maxRecDepth 100000 in
theorem does_put7 (W0 W : World) (bw i i' bs bo : Nat) {X Y : ST} (h : Duo W0 W bw i i' bs bo X Y X Y) (K On k H Ru : Int) (At : Option Addr) (ct : Nat) (t : Tp) (hk : Sl W0 At ct t) (hz : t.length * 8 ≤ 140737488351232) (hOn : bits BinOp.and IntKind.i64 On 1 = (i : Int)) (hK : (Int.tmod (wrap64 (Int.tmod K 8 + 8)) 8) = 7) :
  Calls Tryz.prog 34 #[.pointer (some ⟨bw, 0, none⟩), .agg #[.int .i64 K, .int .i64 On, .int .i64 k, .int .i64 H, .int .i64 Ru, .slice At t.length ct]] W (DoesR W0 bw i i' bs bo) := by
 obtain ⟨V, B, hV, hB, hs, hkp⟩ := act_box W K On k H Ru At ct t
 have HKP := Aside0.mk hkp
 have HVV := Aside0.mk (And.intro hV hB)
 have hD := h.since hs
 have cs := hD.cs
 have HV := Aside0.mk hD
 obtain ⟨q, hq⟩ : ∃ q, q = ratL (plainO X.1) (keys X.2) t := ⟨_, rfl⟩
 obtain ⟨th, hth⟩ : ∃ th, th = decide (t ∈ keys X.2) := ⟨_, rfl⟩
 have HAt := Aside0.mk (fun (w2 : World) (hs : Since V w2) => (HV.out.since hs).at hk)
 rw [← hq, ← hth] at HAt
 obtain ⟨v0, v1, v2, v3, v4, v5⟩ := HKP.out V (Since.refl V)
 rcases h.ii with ⟨rfl, rfl⟩ | ⟨rfl, rfl⟩
 all_goals
  clear h hs hV hB hkp hq hD hth hz
  go_enter Tryz.func34, Tryz.ntmps34
  go_wp2
  rw [← HVV.out.1]
  rw [← HVV.out.2]
  go_region
  all_goals go_wp2_with (first
   | (go_at_call 56; go_loud (refine (HAt.out _ ((Since.refl V).drew)).mono ?_); rintro e w1 ⟨rfl, hs1⟩; have HS1 := Aside0.mk ((Since.refl V).drew.trans hs1); obtain ⟨y0, y1, y2, y3, y4, y5⟩ := HKP.out w1 HS1.out; have hD1 := HV.out.since HS1.out; have co1 := hD1.co; have cs1 := hD1.cs; clear hD1; clear hs1)
   | (go_at_call 59; go_loud (refine (puts_calls W0 _ bw _ _ bs bo (HV.out.since HS1.out) K On k H Ru At ct t hk).mono ?_); rintro e w2 ⟨rfl, X2, Y2, hD2⟩; have HD2 := Aside0.mk hD2; clear hD2))
  go_ret
  exact ⟨rfl, X2, Y2, HD2.out⟩
set_option maxHeartbeats 16000000 in
set_option maxRecDepth 100000 in
theorem does_clear (W0 W : World) (bw i i' bs bo : Nat) {X Y : ST} (h : Duo W0 W bw i i' bs bo X Y X Y) (K On k H Ru : Int) (At : Option Addr) (ct : Nat) (t : Tp) (hk : Sl W0 At ct t) (hz : t.length * 8 ≤ 140737488351232) (hOn : bits BinOp.and IntKind.i64 On 1 = (i : Int)) (hK : (Int.tmod (wrap64 (Int.tmod K 8 + 8)) 8) = 6) :
  Calls Tryz.prog 34 #[.pointer (some ⟨bw, 0, none⟩), .agg #[.int .i64 K, .int .i64 On, .int .i64 k, .int .i64 H, .int .i64 Ru, .slice At t.length ct]] W (DoesR W0 bw i i' bs bo) := by
 obtain ⟨V, B, hV, hB, hs, hkp⟩ := act_box W K On k H Ru At ct t
 have HKP := Aside0.mk hkp
 have HVV := Aside0.mk (And.intro hV hB)
 have hD := h.since hs
 have cs := hD.cs
 have HV := Aside0.mk hD
 obtain ⟨q, hq⟩ : ∃ q, q = ratL (plainO X.1) (keys X.2) t := ⟨_, rfl⟩
 obtain ⟨th, hth⟩ : ∃ th, th = decide (t ∈ keys X.2) := ⟨_, rfl⟩
 have HAt := Aside0.mk (fun (w2 : World) (hs : Since V w2) => (HV.out.since hs).at hk)
 rw [← hq, ← hth] at HAt
 obtain ⟨v0, v1, v2, v3, v4, v5⟩ := HKP.out V (Since.refl V)
 rcases h.ii with ⟨rfl, rfl⟩ | ⟨rfl, rfl⟩
 all_goals
  clear h hs hV hB hkp hq hD hth hz hk
  go_enter Tryz.func34, Tryz.ntmps34
  go_wp2
  rw [← HVV.out.1]
  rw [← HVV.out.2]
  go_region
  all_goals go_wp2_with (first
   | (go_at_call 56; go_loud (refine (HAt.out _ ((Since.refl V).drew)).mono ?_); rintro e w1 ⟨rfl, hs1⟩; have HS1 := Aside0.mk ((Since.refl V).drew.trans hs1); obtain ⟨y0, y1, y2, y3, y4, y5⟩ := HKP.out w1 HS1.out; have hD1 := HV.out.since HS1.out; have co1 := hD1.co; have cs1 := hD1.cs; clear hD1; clear hs1)
   | (go_at_call 30; go_loud (refine (HV.out.since HS1.out).clear.mono ?_); rintro e w2 ⟨rfl, hD2⟩; have HD2 := Aside0.mk hD2; obtain ⟨A8, c8, k8, k9⟩ := hD2.rcell; have f9 := hD2.fr; simp only [Nat.reduceMul, Nat.reduceAdd] at k8 k9; have f3 := f9 3; have f5 := f9 5; clear hD2 f9))
  go_ret
  exact ⟨rfl, _, _, HD2.out.rclear⟩
set_option maxHeartbeats 16000000 in
set_option maxRecDepth 100000 in
theorem does_merge (W0 W : World) (bw i i' bs bo : Nat) {X Y : ST} (h : Duo W0 W bw i i' bs bo X Y X Y) (K On k H Ru : Int) (At : Option Addr) (ct : Nat) (t : Tp) (hk : Sl W0 At ct t) (hz : t.length * 8 ≤ 140737488351232) (hOn : bits BinOp.and IntKind.i64 On 1 = (i : Int)) (hK : (Int.tmod (wrap64 (Int.tmod K 8 + 8)) 8) = 4) (hw : X.1 = Y.1) :
  Calls Tryz.prog 34 #[.pointer (some ⟨bw, 0, none⟩), .agg #[.int .i64 K, .int .i64 On, .int .i64 k, .int .i64 H, .int .i64 Ru, .slice At t.length ct]] W (DoesR W0 bw i i' bs bo) := by
 obtain ⟨V, B, hV, hB, hs, hkp⟩ := act_box W K On k H Ru At ct t
 have HKP := Aside0.mk hkp
 have HVV := Aside0.mk (And.intro hV hB)
 have hD := h.since hs
 have cs := hD.cs
 have HV := Aside0.mk hD
 obtain ⟨q, hq⟩ : ∃ q, q = ratL (plainO X.1) (keys X.2) t := ⟨_, rfl⟩
 obtain ⟨th, hth⟩ : ∃ th, th = decide (t ∈ keys X.2) := ⟨_, rfl⟩
 have HAt := Aside0.mk (fun (w2 : World) (hs : Since V w2) => (HV.out.since hs).at hk)
 rw [← hq, ← hth] at HAt
 obtain ⟨v0, v1, v2, v3, v4, v5⟩ := HKP.out V (Since.refl V)
 have HMg := Aside0.mk (fun (w2 : World) (hs : Since V w2) => (HV.out.since hs).merge hw)
 have HRm := Aside0.mk (fun (w2 : World) (R : List Row) (hd : Duo W0 w2 bw i i' bs bo (X.1, R) Y X Y) (A3 : Option Addr) (n3 c3 : Nat) (hc : w2.cell? ⟨bw, 2 + 2 * i' + 1, none⟩ = some (.slice A3 n3 c3)) => hd.rmerge hw A3 n3 c3 hc)
 obtain ⟨M, hM⟩ : ∃ M, M = mergeR X.1 X.2 0 Y.2 := ⟨_, rfl⟩
 rw [← hM] at HMg
 rw [← hM] at HRm
 clear hM
 obtain ⟨ma, mb, mc⟩ := M
 obtain ⟨xw, hxw⟩ : ∃ xw, xw = X.1 := ⟨_, rfl⟩
 have HXW := Aside0.mk hxw
 have za : ((ma : Int) == (ma : Int)) = true := by simp
 have zb : (mb == mb) = true := by simp
 clear hxw
 rcases h.ii with ⟨rfl, rfl⟩ | ⟨rfl, rfl⟩
 all_goals
  clear h hs hV hB hkp hq hD hth hz hk
  go_enter Tryz.func34, Tryz.ntmps34
  go_wp2
  rw [← HVV.out.1]
  rw [← HVV.out.2]
  go_region
  all_goals go_wp2_with (first
   | (go_at_call 56; go_loud (refine (HAt.out _ ((Since.refl V).drew)).mono ?_); rintro e w1 ⟨rfl, hs1⟩; have HS1 := Aside0.mk ((Since.refl V).drew.trans hs1); obtain ⟨y0, y1, y2, y3, y4, y5⟩ := HKP.out w1 HS1.out; have hD1 := HV.out.since HS1.out; have co1 := hD1.co; have cs1 := hD1.cs; clear hD1; clear hs1)
   | (go_at_call 29; go_loud (((with_reducible refine (HMg.out _ HS1.out).mono ?_)); rintro e w2 ⟨rfl, hD2⟩); have HD2 := Aside0.mk hD2; obtain ⟨A8, c8, k8, k9⟩ := hD2.symm.rcell; obtain ⟨n8, hn8⟩ : ∃ n, n = Y.2.length := ⟨_, rfl⟩; rw [← hn8] at k9; have HRM := Aside0.mk (HRm.out w2 _ hD2 A8 n8 c8 k9); rw [← hw, ← HXW.out] at k8; rw [← HXW.out] at HRM; simp only [Nat.reduceMul, Nat.reduceAdd] at k8 k9 HRM; clear hD2 hn8)
   | (go_at_call 58; go_loud (((with_reducible refine HRM.out.mono ?_)); clear HRM; rintro e w3 ⟨rfl, hD3⟩); have HD3 := Aside0.mk hD3; clear hD3))
  go_ret
  exact ⟨by simp, _, _, HXW.out ▸ HD3.out⟩
set_option maxHeartbeats 16000000 in
set_option maxRecDepth 100000 in
theorem does_merge_no (W0 W : World) (bw i i' bs bo : Nat) {X Y : ST} (h : Duo W0 W bw i i' bs bo X Y X Y) (K On k H Ru : Int) (At : Option Addr) (ct : Nat) (t : Tp) (hk : Sl W0 At ct t) (hz : t.length * 8 ≤ 140737488351232) (hOn : bits BinOp.and IntKind.i64 On 1 = (i : Int)) (hK : (Int.tmod (wrap64 (Int.tmod K 8 + 8)) 8) = 4) (hw : X.1 ≠ Y.1) :
  Calls Tryz.prog 34 #[.pointer (some ⟨bw, 0, none⟩), .agg #[.int .i64 K, .int .i64 On, .int .i64 k, .int .i64 H, .int .i64 Ru, .slice At t.length ct]] W (DoesR W0 bw i i' bs bo) := by
 obtain ⟨V, B, hV, hB, hs, hkp⟩ := act_box W K On k H Ru At ct t
 have HKP := Aside0.mk hkp
 have HVV := Aside0.mk (And.intro hV hB)
 have hD := h.since hs
 have cs := hD.cs
 have HV := Aside0.mk hD
 obtain ⟨q, hq⟩ : ∃ q, q = ratL (plainO X.1) (keys X.2) t := ⟨_, rfl⟩
 obtain ⟨th, hth⟩ : ∃ th, th = decide (t ∈ keys X.2) := ⟨_, rfl⟩
 have HAt := Aside0.mk (fun (w2 : World) (hs : Since V w2) => (HV.out.since hs).at hk)
 rw [← hq, ← hth] at HAt
 obtain ⟨v0, v1, v2, v3, v4, v5⟩ := HKP.out V (Since.refl V)
 rcases h.ii with ⟨rfl, rfl⟩ | ⟨rfl, rfl⟩
 all_goals
  clear h hs hV hB hkp hq hD hth hz hk
  go_enter Tryz.func34, Tryz.ntmps34
  go_wp2
  rw [← HVV.out.1]
  rw [← HVV.out.2]
  go_region
  all_goals go_wp2_with (first
   | (go_at_call 56; go_loud (refine (HAt.out _ ((Since.refl V).drew)).mono ?_); rintro e w1 ⟨rfl, hs1⟩; have HS1 := Aside0.mk ((Since.refl V).drew.trans hs1); obtain ⟨y0, y1, y2, y3, y4, y5⟩ := HKP.out w1 HS1.out; have hD1 := HV.out.since HS1.out; have co1 := hD1.co; have cs1 := hD1.cs; clear hD1; clear hs1)
   | (go_at_call 29; go_loud (refine ((HV.out.since HS1.out).merge_no hw).mono ?_); rintro e w2 ⟨rfl, hs2⟩; have HD2 := Aside0.mk ((HV.out.since HS1.out).since hs2); obtain ⟨A8, c8, k8, k9⟩ := HD2.out.symm.rcell; have HRM := Aside0.mk (HD2.out.rmerge_no Y.1 hw A8 Y.2.length c8); simp only [Nat.reduceMul, Nat.reduceAdd] at k8 k9; clear hs2)
   | (go_at_call 58; go_loud (refine HRM.out.mono ?_); clear HRM; rintro e w3 ⟨rfl, hs3⟩; have HD3 := Aside0.mk (HD2.out.since hs3); clear hs3))
  go_ret
  exact ⟨by simp, _, _, HD3.out⟩
theorem Duo.rswap2 {W0 W : World} {bw bs bo : Nat} {X Y P Q : ST} (h : Duo W0 W bw 0 1 bs bo X Y P Q) (xw : Nat) (h1 : P.1 = xw) (h2 : Q.1 = xw) {A0 : Option Addr} {n0 c0 : Nat} {A1 : Option Addr} {n1 c1 : Nat} (k3 : W.cell? ⟨bw, 3, none⟩ = some (.slice A0 n0 c0)) (k5 : W.cell? ⟨bw, 5, none⟩ = some (.slice A1 n1 c1)) :
  Duo W0 ((((W.setCell ⟨bw, 2, none⟩ (.int .i64 (xw : Int))).setCell ⟨bw, 3, none⟩ (.slice A1 n1 c1)).setCell ⟨bw, 4, none⟩ (.int .i64 (xw : Int))).setCell ⟨bw, 5, none⟩ (.slice A0 n0 c0)) bw 0 1 bs bo X Y Q P := by
 subst h1
 exact h.rswap h2.symm k3 k5
theorem Duo.rowq {W0 W : World} {bw i i' bs bo : Nat} {X Y P Q : ST} (h : Duo W0 W bw i i' bs bo X Y P Q) {t : Tp} {n : Int × Int} (hl : lookF P.2 t = some n) :
  ∃ g c, W.cell? ⟨bw, 2 + 2 * i + 1, none⟩ = some (.slice (some ⟨g, 0, none⟩) P.2.length c) ∧ ratL (plainO P.1) (keys P.2) t < P.2.length ∧ W.cell? ⟨g, ratL (plainO P.1) (keys P.2) t * 3 + 1, none⟩ = some (.int .i64 n.1) ∧ W.cell? ⟨g, ratL (plainO P.1) (keys P.2) t * 3 + 2, none⟩ = some (.int .i64 n.2) := by
 obtain ⟨F1, F2, G1, G2, e1, e2, ⟨A, c, es, e3⟩, e4, e5⟩ := h.ex
 have hm : t ∈ keys P.2 := by
  by_cases hm : t ∈ keys P.2
  ·exact hm
  ·rw [lookF_none.2 hm] at hl; cases hl
 have hlen := e3.hR.key hm
 obtain ⟨hqn, hqe⟩ := (rhas_iff (e3.hR.fit e3.h8) e3.hR.up (by rw [plainO_len]; exact hlen) (plainO_rt e3.h8)).2 hm
 obtain ⟨q, hq⟩ : ∃ q, q = ratL (plainO P.1) (keys P.2) t := ⟨_, rfl⟩
 simp only [← hq] at hqn hqe ⊢
 have hqr : q < P.2.length := by simpa [keys] using hqn
 have hqk : (P.2[q]).1 = t := by simpa [keys] using hqe
 have hqo := (lookF_of e3.hR.nodup hqr (t := t) hqk).symm.trans hl
 have hqn2 : (P.2[q]).2 = n := by injection hqo
 obtain ⟨ad, Ai, ci, hA, c0, c1, c2, _⟩ := kr_at e3.C q hqr
 obtain ⟨g, hg⟩ : ∃ g, ad = ⟨g, 0, none⟩ := by
  rcases e3.own.2 with ⟨e, _⟩ | ⟨g, cap, cur, e, _⟩
  ·injection e with e _ _; rw [hA] at e; cases e
  ·injection e with e _ _; rw [hA] at e; injection e with e; exact ⟨g, e⟩
 subst hg
 rw [hqn2] at c1 c2
 rw [Addr.add_lit, Nat.zero_add] at c1 c2
 exact ⟨g, c, by rw [← hA]; exact e3.c1, hqr, c1, c2⟩
set_option maxHeartbeats 16000000 in
set_option maxRecDepth 100000 in
theorem does_note_none (W0 W : World) (bw i i' bs bo : Nat) {X Y : ST} (h : Duo W0 W bw i i' bs bo X Y X Y) (K On k H Ru : Int) (At : Option Addr) (ct : Nat) (t : Tp) (hk : Sl W0 At ct t) (hz : t.length * 8 ≤ 140737488351232) (hOn : bits BinOp.and IntKind.i64 On 1 = (i : Int)) (hK : (Int.tmod (wrap64 (Int.tmod K 8 + 8)) 8) = 2) (hl : lookF X.2 t = none) :
  Calls Tryz.prog 34 #[.pointer (some ⟨bw, 0, none⟩), .agg #[.int .i64 K, .int .i64 On, .int .i64 k, .int .i64 H, .int .i64 Ru, .slice At t.length ct]] W (DoesR W0 bw i i' bs bo) := by
 obtain ⟨V, B, hV, hB, hs, hkp⟩ := act_box W K On k H Ru At ct t
 have HKP := Aside0.mk hkp
 have HVV := Aside0.mk (And.intro hV hB)
 have hD := h.since hs
 have cs := hD.cs
 have HV := Aside0.mk hD
 obtain ⟨q, hq⟩ : ∃ q, q = ratL (plainO X.1) (keys X.2) t := ⟨_, rfl⟩
 obtain ⟨th, hth⟩ : ∃ th, th = decide (t ∈ keys X.2) := ⟨_, rfl⟩
 have HAt := Aside0.mk (fun (w2 : World) (hs : Since V w2) => (HV.out.since hs).at hk)
 rw [← hq, ← hth] at HAt
 obtain ⟨v0, v1, v2, v3, v4, v5⟩ := HKP.out V (Since.refl V)
 have HNo := Aside0.mk (fun (w2 : World) (hs : Since V w2) => (HV.out.since hs).note hk)
 rw [hl, show noteOf none = .complex .f64 0 0 from rfl, show (none : Option (Int × Int)).isSome = false from rfl] at HNo
 have hth' : th = false := by rw [hth]; exact decide_eq_false (lookF_none.1 hl)
 subst hth'
 have HH := Aside0.mk (fun w => rheight_calls w 0 0)
 obtain ⟨F, hF⟩ : ∃ F, F = heightF 0 0 := ⟨_, rfl⟩
 rw [← hF] at HH
 obtain ⟨f1, f2, f3⟩ := F
 have fz : FloatKind.f64.format.order 0 0 = some .eq := by decide
 rcases h.ii with ⟨rfl, rfl⟩ | ⟨rfl, rfl⟩
 all_goals
  clear h hs hV hB hkp hq hD hth hz hk hF hl
  go_enter Tryz.func34, Tryz.ntmps34
  go_wp2
  rw [← HVV.out.1]
  rw [← HVV.out.2]
  go_region
  all_goals go_wp2_with (first
   | (go_at_call 56; go_loud (refine (HAt.out _ ((Since.refl V).drew)).mono ?_); rintro e w1 ⟨rfl, hs1⟩; have HS1 := Aside0.mk ((Since.refl V).drew.trans hs1); obtain ⟨y0, y1, y2, y3, y4, y5⟩ := HKP.out w1 HS1.out; have hD1 := HV.out.since HS1.out; have co1 := hD1.co; have cs1 := hD1.cs; clear hD1; clear hs1)
   | (go_at_call 24; go_loud (refine (HNo.out _ HS1.out).mono ?_); rintro e w2 ⟨rfl, hs2⟩; have HS2 := Aside0.mk (HS1.out.trans hs2); clear hs2)
   | (go_at_call 14; go_loud (refine (HH.out _).mono ?_); rintro e w3 ⟨rfl, rfl⟩))
  go_ret
  exact ⟨by simp, X, Y, HV.out.since HS2.out⟩
set_option maxHeartbeats 16000000 in
set_option maxRecDepth 100000 in
theorem does_note_some (W0 W : World) (bw i i' bs bo : Nat) {X Y : ST} (h : Duo W0 W bw i i' bs bo X Y X Y) (K On k H Ru : Int) (At : Option Addr) (ct : Nat) (t : Tp) (hk : Sl W0 At ct t) (hz : t.length * 8 ≤ 140737488351232) (hOn : bits BinOp.and IntKind.i64 On 1 = (i : Int)) (hK : (Int.tmod (wrap64 (Int.tmod K 8 + 8)) 8) = 2) (n : Int × Int) (hl : lookF X.2 t = some n) :
  Calls Tryz.prog 34 #[.pointer (some ⟨bw, 0, none⟩), .agg #[.int .i64 K, .int .i64 On, .int .i64 k, .int .i64 H, .int .i64 Ru, .slice At t.length ct]] W (DoesR W0 bw i i' bs bo) := by
 obtain ⟨V, B, hV, hB, hs, hkp⟩ := act_box W K On k H Ru At ct t
 have HKP := Aside0.mk hkp
 have HVV := Aside0.mk (And.intro hV hB)
 have hD := h.since hs
 have cs := hD.cs
 have HV := Aside0.mk hD
 obtain ⟨q, hq⟩ : ∃ q, q = ratL (plainO X.1) (keys X.2) t := ⟨_, rfl⟩
 obtain ⟨th, hth⟩ : ∃ th, th = decide (t ∈ keys X.2) := ⟨_, rfl⟩
 have HAt := Aside0.mk (fun (w2 : World) (hs : Since V w2) => (HV.out.since hs).at hk)
 rw [← hq, ← hth] at HAt
 obtain ⟨v0, v1, v2, v3, v4, v5⟩ := HKP.out V (Since.refl V)
 have HNo := Aside0.mk (fun (w2 : World) (hs : Since V w2) => (HV.out.since hs).note hk)
 obtain ⟨r1, r2⟩ := HV.out.rows.1.nt _ (lookF_mem hl)
 obtain ⟨n1, n2⟩ := n
 dsimp only at r1 r2
 rw [hl, show noteOf (some (n1, n2)) = .complex .f64 (nf n1) (nf n2) from rfl, show (some (n1, n2) : Option (Int × Int)).isSome = true from rfl] at HNo
 have hth' : th = true := by rw [hth]; exact decide_eq_true (mem_keys (lookF_mem hl))
 subst hth'
 have HH := Aside0.mk (fun w => rheight_calls w (nf n1) (nf n2))
 rw [heightF_nf r1 r2] at HH
 obtain ⟨g, gc, g1, g2, g3, g4⟩ := hD.rowq hl
 rw [← hq] at g2 g3 g4
 obtain ⟨rn, hrn⟩ : ∃ rn, rn = X.2.length := ⟨_, rfl⟩
 rw [← hrn] at g1 g2
 have HRW := Aside0.mk (fun (w' : World) (hs : Since V w') => And.intro (pw_cell_below hs.b g1) (And.intro (pw_cell_below hs.b g3) (pw_cell_below hs.b g4)))
 have hqd : decide (q < rn) = true := decide_eq_true g2
 have hqi : (q : Int) < (rn : Int) := by omega
 have n11 : (n1 == n1) = true := by simp
 have n22 : (n2 == n2) = true := by simp
 rcases h.ii with ⟨rfl, rfl⟩ | ⟨rfl, rfl⟩
 all_goals
  clear h hs hV hB hkp hq hD hth hz hk hl r1 r2 g1 g2 g3 g4 hrn
  go_enter Tryz.func34, Tryz.ntmps34
  go_wp2
  rw [← HVV.out.1]
  rw [← HVV.out.2]
  go_region
  all_goals go_wp2_with (first
   | (go_at_call 56; go_loud (refine (HAt.out _ ((Since.refl V).drew)).mono ?_); rintro e w1 ⟨rfl, hs1⟩; have HS1 := Aside0.mk ((Since.refl V).drew.trans hs1); obtain ⟨y0, y1, y2, y3, y4, y5⟩ := HKP.out w1 HS1.out; have hD1 := HV.out.since HS1.out; have co1 := hD1.co; have cs1 := hD1.cs; clear hD1; clear hs1)
   | (go_at_call 24; go_loud (refine (HNo.out _ HS1.out).mono ?_); rintro e w2 ⟨rfl, hs2⟩; have HS2 := Aside0.mk (HS1.out.trans hs2); obtain ⟨u1, u2, u3⟩ := HRW.out w2 HS2.out; simp only [Nat.reduceMul, Nat.reduceAdd] at u1; clear hs2)
   | (go_at_call 14; go_loud (refine (HH.out _).mono ?_); rintro e w3 ⟨rfl, rfl⟩))
  go_ret
  exact ⟨by simp, X, Y, HV.out.since HS2.out⟩
set_option maxHeartbeats 16000000 in
set_option maxRecDepth 100000 in
theorem does_find (W0 W : World) (bw i i' bs bo : Nat) {X Y : ST} (h : Duo W0 W bw i i' bs bo X Y X Y) (K On k H Ru : Int) (At : Option Addr) (ct : Nat) (t : Tp) (hk : Sl W0 At ct t) (hz : t.length * 8 ≤ 140737488351232) (hOn : bits BinOp.and IntKind.i64 On 1 = (i : Int)) (hK : (Int.tmod (wrap64 (Int.tmod K 8 + 8)) 8) = 3) :
  Calls Tryz.prog 34 #[.pointer (some ⟨bw, 0, none⟩), .agg #[.int .i64 K, .int .i64 On, .int .i64 k, .int .i64 H, .int .i64 Ru, .slice At t.length ct]] W (DoesR W0 bw i i' bs bo) := by
 obtain ⟨V, B, hV, hB, hs, hkp⟩ := act_box W K On k H Ru At ct t
 have HKP := Aside0.mk hkp
 have HVV := Aside0.mk (And.intro hV hB)
 have hD := h.since hs
 have cs := hD.cs
 have HV := Aside0.mk hD
 obtain ⟨q, hq⟩ : ∃ q, q = ratL (plainO X.1) (keys X.2) t := ⟨_, rfl⟩
 obtain ⟨th, hth⟩ : ∃ th, th = decide (t ∈ keys X.2) := ⟨_, rfl⟩
 have HAt := Aside0.mk (fun (w2 : World) (hs : Since V w2) => (HV.out.since hs).at hk)
 rw [← hq, ← hth] at HAt
 obtain ⟨v0, v1, v2, v3, v4, v5⟩ := HKP.out V (Since.refl V)
 have HFi := Aside0.mk (fun (w2 : World) (hs : Since V w2) => (HV.out.since hs).find k hk hz)
 have HRf := Aside0.mk (fun (w2 : World) (hs : Since V w2) => (HV.out.since hs).rfind k hk)
 have HRO := Aside0.mk HV.out.rows
 have HWk := Aside0.mk (fun (w2 : World) (lb : Array Value) (hs : Seq2R Fence.wide Tryz.prog 45 lb (findL X.1 X.2 k t) w2) (A : Option Addr) (c : Nat) (hC : Kd.C KR w2 A (findL X.1 X.2 k t).length (findL X.1 X.2 k t)) => found_walked HRO.out.1 HRO.out.2 k t w2 lb hs A _ c rfl hC)
 obtain ⟨ys, hys⟩ : ∃ ys, ys = findL X.1 X.2 k t := ⟨_, rfl⟩
 rw [← hys] at HFi HRf HWk
 obtain ⟨m, hm⟩ : ∃ m, m = ys.length := ⟨_, rfl⟩
 rw [← hm] at HRf HWk
 rcases h.ii with ⟨rfl, rfl⟩ | ⟨rfl, rfl⟩
 all_goals
  clear h hs hV hB hkp hq hD hth hz hk hys hm
  go_enter Tryz.func34, Tryz.ntmps34
  go_wp2
  rw [← HVV.out.1]
  rw [← HVV.out.2]
  go_region
  all_goals go_wp2_with (first
   | (go_at_call 56; go_loud (refine (HAt.out _ ((Since.refl V).drew)).mono ?_); rintro e w1 ⟨rfl, hs1⟩; have HS1 := Aside0.mk ((Since.refl V).drew.trans hs1); obtain ⟨y0, y1, y2, y3, y4, y5⟩ := HKP.out w1 HS1.out; have hD1 := HV.out.since HS1.out; have co1 := hD1.co; have cs1 := hD1.cs; clear hD1; clear hs1))
  all_goals go_wp2_with fail
  have hs0 : Since V w1.drew := HS1.out.drew
  have HKQ := Aside0.mk (show ∀ w', Since V w' → (w'.cell? ⟨B, 2, none⟩ = some (.int .i64 k) ∧ w'.cell? ⟨B, 5, none⟩ = some (.slice At t.length ct)) ∧ Since V w' from fun w' hs => ⟨⟨(HKP.out w' hs).2.2.1, (HKP.out w' hs).2.2.2.2.2⟩, hs⟩)
  go_region_held3 (fun w' => (w'.cell? ⟨B, 2, none⟩ = some (.int .i64 k) ∧ w'.cell? ⟨B, 5, none⟩ = some (.slice At t.length ct)) ∧ Since V w')
   (first | exact HKQ.out _ hs0 | exact HKQ.out _ (by ((try go_split_ands); first | exact Since.refl _ | assumption | exact Since.trans (by assumption) (by assumption) | exact Since.trans (Since.trans (by assumption) (by assumption)) (by assumption) | exact Since.trans (Since.trans (Since.trans (by assumption) (by assumption)) (by assumption)) (by assumption))))
   (first
    | (go_at_call 22; go_loud (refine (HFi.out _ (by ((try go_split_ands); first | exact Since.refl _ | assumption | exact Since.trans (by assumption) (by assumption) | exact Since.trans (Since.trans (by assumption) (by assumption)) (by assumption) | exact Since.trans (Since.trans (Since.trans (by assumption) (by assumption)) (by assumption)) (by assumption)))).mono ?_); rintro e w' ⟨lb, rfl, hs5, HL5⟩)
    | (go_at_call 57; go_loud (refine (HRf.out _ (by ((try go_split_ands); first | exact Since.refl _ | assumption | exact Since.trans (by assumption) (by assumption) | exact Since.trans (Since.trans (by assumption) (by assumption)) (by assumption) | exact Since.trans (Since.trans (Since.trans (by assumption) (by assumption)) (by assumption)) (by assumption)))).mono ?_); rintro e w' ⟨A7, c7, rfl, hc7, hC7, hs7⟩)
    | (go_at_call 28; go_loud (refine (HWk.out _ lb (HL5.out _ (by ((try go_split_ands); first | exact Since.refl _ | assumption | exact Since.trans (by assumption) (by assumption) | exact Since.trans (Since.trans (by assumption) (by assumption)) (by assumption) | exact Since.trans (Since.trans (Since.trans (by assumption) (by assumption)) (by assumption)) (by assumption)))) A7 c7 (by first | exact hC7 | exact Kd.C_below hC7 (Since.b (by ((try go_split_ands); first | exact Since.refl _ | assumption | exact Since.trans (by assumption) (by assumption) | exact Since.trans (Since.trans (by assumption) (by assumption)) (by assumption) | exact Since.trans (Since.trans (Since.trans (by assumption) (by assumption)) (by assumption)) (by assumption)))))).mono ?_); rintro e w' ⟨rfl, hs8⟩))
  have hs9 : Since V w' := by go_split_ands; assumption
  have HS9 := Aside0.mk hs9
  clear hs9
  go_wp2
  go_ret
  exact ⟨by simp, X, Y, HV.out.since HS9.out⟩
set_option maxHeartbeats 16000000 in
set_option maxRecDepth 100000 in
theorem does_swap (W0 W : World) (bw i i' bs bo : Nat) {X Y : ST} (h : Duo W0 W bw i i' bs bo X Y X Y) (K On k H Ru : Int) (At : Option Addr) (ct : Nat) (t : Tp) (hk : Sl W0 At ct t) (hz : t.length * 8 ≤ 140737488351232) (hOn : bits BinOp.and IntKind.i64 On 1 = (i : Int)) (hK : (Int.tmod (wrap64 (Int.tmod K 8 + 8)) 8) = 5) (hw : X.1 = Y.1) :
  Calls Tryz.prog 34 #[.pointer (some ⟨bw, 0, none⟩), .agg #[.int .i64 K, .int .i64 On, .int .i64 k, .int .i64 H, .int .i64 Ru, .slice At t.length ct]] W (DoesR W0 bw i i' bs bo) := by
 obtain ⟨V, B, hV, hB, hs, hkp⟩ := act_box W K On k H Ru At ct t
 have HKP := Aside0.mk hkp
 have HVV := Aside0.mk (And.intro hV hB)
 have hD := h.since hs
 have cs := hD.cs
 have HV := Aside0.mk hD
 obtain ⟨q, hq⟩ : ∃ q, q = ratL (plainO X.1) (keys X.2) t := ⟨_, rfl⟩
 obtain ⟨th, hth⟩ : ∃ th, th = decide (t ∈ keys X.2) := ⟨_, rfl⟩
 have HAt := Aside0.mk (fun (w2 : World) (hs : Since V w2) => (HV.out.since hs).at hk)
 rw [← hq, ← hth] at HAt
 obtain ⟨v0, v1, v2, v3, v4, v5⟩ := HKP.out V (Since.refl V)
 have HSw := Aside0.mk (fun (w2 : World) (hs : Since V w2) => (HV.out.since hs).swap hw)
 obtain ⟨xw, hxw⟩ : ∃ xw, xw = X.1 := ⟨_, rfl⟩
 have HXW := Aside0.mk hxw
 have zx : ((xw : Int) != (xw : Int)) = false := by simp
 clear hxw
 rcases h.ii with ⟨rfl, rfl⟩ | ⟨rfl, rfl⟩
 all_goals
  clear h hs hV hB hkp hq hD hth hz hk
  go_enter Tryz.func34, Tryz.ntmps34
  go_wp2
  rw [← HVV.out.1]
  rw [← HVV.out.2]
  go_region
  all_goals go_wp2_with (first
   | (go_at_call 56; go_loud (refine (HAt.out _ ((Since.refl V).drew)).mono ?_); rintro e w1 ⟨rfl, hs1⟩; have HS1 := Aside0.mk ((Since.refl V).drew.trans hs1); obtain ⟨y0, y1, y2, y3, y4, y5⟩ := HKP.out w1 HS1.out; have hD1 := HV.out.since HS1.out; have co1 := hD1.co; have cs1 := hD1.cs; clear hD1; clear hs1)
   | (go_at_call 32; go_loud (refine (HSw.out _ HS1.out).mono ?_); rintro e w2 ⟨rfl, hD2⟩; have HD2 := Aside0.mk hD2; obtain ⟨A8, c8, k8, k9⟩ := hD2.rcell; obtain ⟨A9, c9, m8, m9⟩ := hD2.symm.rcell; obtain ⟨n8, hn8⟩ : ∃ n, n = X.2.length := ⟨_, rfl⟩; obtain ⟨n9, hn9⟩ : ∃ n, n = Y.2.length := ⟨_, rfl⟩; rw [← hn8] at k9; rw [← hn9] at m9; rw [← hw, ← HXW.out] at m8; rw [← HXW.out] at k8; simp only [Nat.reduceMul, Nat.reduceAdd] at k8 k9 m8 m9; have f9 := hD2.fr; have f2 := f9 2; have f3 := f9 3; have f4 := f9 4; have f5 := f9 5; clear hD2 hn8 hn9 f9))
  all_goals go_region
  all_goals go_wp2
  all_goals go_region
  all_goals go_wp2
  all_goals go_ret
  all_goals first
   | exact ⟨by simp, Y, X, (HD2.out.rswap2 xw HXW.out.symm (by rw [← hw]; exact HXW.out.symm) k9 m9).since (Since.refl _).drew.drew⟩
   | exact ⟨by simp, Y, X, (HD2.out.symm.rswap2 xw (by rw [← hw]; exact HXW.out.symm) HXW.out.symm m9 k9).symm.since (Since.refl _).drew.drew⟩
set_option maxHeartbeats 16000000 in
set_option maxRecDepth 100000 in
theorem does_swap_no (W0 W : World) (bw i i' bs bo : Nat) {X Y : ST} (h : Duo W0 W bw i i' bs bo X Y X Y) (K On k H Ru : Int) (At : Option Addr) (ct : Nat) (t : Tp) (hk : Sl W0 At ct t) (hz : t.length * 8 ≤ 140737488351232) (hOn : bits BinOp.and IntKind.i64 On 1 = (i : Int)) (hK : (Int.tmod (wrap64 (Int.tmod K 8 + 8)) 8) = 5) (hw : X.1 ≠ Y.1) :
  Calls Tryz.prog 34 #[.pointer (some ⟨bw, 0, none⟩), .agg #[.int .i64 K, .int .i64 On, .int .i64 k, .int .i64 H, .int .i64 Ru, .slice At t.length ct]] W (DoesR W0 bw i i' bs bo) := by
 obtain ⟨V, B, hV, hB, hs, hkp⟩ := act_box W K On k H Ru At ct t
 have HKP := Aside0.mk hkp
 have HVV := Aside0.mk (And.intro hV hB)
 have hD := h.since hs
 have cs := hD.cs
 have HV := Aside0.mk hD
 obtain ⟨q, hq⟩ : ∃ q, q = ratL (plainO X.1) (keys X.2) t := ⟨_, rfl⟩
 obtain ⟨th, hth⟩ : ∃ th, th = decide (t ∈ keys X.2) := ⟨_, rfl⟩
 have HAt := Aside0.mk (fun (w2 : World) (hs : Since V w2) => (HV.out.since hs).at hk)
 rw [← hq, ← hth] at HAt
 obtain ⟨v0, v1, v2, v3, v4, v5⟩ := HKP.out V (Since.refl V)
 have HSw := Aside0.mk (fun (w2 : World) (hs : Since V w2) => (HV.out.since hs).swap_no hw)
 obtain ⟨x1, hx1⟩ : ∃ x, x = X.1 := ⟨_, rfl⟩
 obtain ⟨x2, hx2⟩ : ∃ x, x = Y.1 := ⟨_, rfl⟩
 have HXW := Aside0.mk (And.intro hx1 hx2)
 have zx : ((x1 : Int) != (x2 : Int)) = true := bne_iff_ne.2 (by omega)
 clear hx1 hx2
 rcases h.ii with ⟨rfl, rfl⟩ | ⟨rfl, rfl⟩
 all_goals
  clear h hs hV hB hkp hq hD hth hz hk
  go_enter Tryz.func34, Tryz.ntmps34
  go_wp2
  rw [← HVV.out.1]
  rw [← HVV.out.2]
  go_region
  all_goals go_wp2_with (first
   | (go_at_call 56; go_loud (refine (HAt.out _ ((Since.refl V).drew)).mono ?_); rintro e w1 ⟨rfl, hs1⟩; have HS1 := Aside0.mk ((Since.refl V).drew.trans hs1); obtain ⟨y0, y1, y2, y3, y4, y5⟩ := HKP.out w1 HS1.out; have hD1 := HV.out.since HS1.out; have co1 := hD1.co; have cs1 := hD1.cs; clear hD1; clear hs1)
   | (go_at_call 32; go_loud (refine (HSw.out _ HS1.out).mono ?_); rintro e w2 ⟨rfl, hs2⟩; have HD2 := Aside0.mk ((HV.out.since HS1.out).since hs2); obtain ⟨A8, c8, k8, k9⟩ := HD2.out.rcell; obtain ⟨A9, c9, m8, m9⟩ := HD2.out.symm.rcell; rw [← HXW.out.1] at k8; rw [← HXW.out.2] at m8; simp only [Nat.reduceMul, Nat.reduceAdd] at k8 k9 m8 m9; clear hs2))
  all_goals go_region
  all_goals go_wp2
  all_goals go_ret
  all_goals exact ⟨by simp, X, Y, HD2.out.since (Since.refl _).drew⟩
theorem and_one (x : Int) : bits BinOp.and IntKind.i64 x 1 = 0 ∨ bits BinOp.and IntKind.i64 x 1 = 1 := by
 have e : bits BinOp.and IntKind.i64 x 1 = (((BitVec.ofInt 64 x).toNat % 2 : Nat) : Int) := by
  show IntKind.i64.wrap ((BitVec.ofInt 64 x &&& BitVec.ofInt 64 1).toNat : Int) = _
  rw [BitVec.toNat_and, show (BitVec.ofInt 64 1).toNat = 1 from rfl, Nat.and_one_is_mod, IntKind.wrap_i64]
  omega
 rw [e]
 omega
theorem kind8 (K : Int) : 0 ≤ Int.tmod (wrap64 (Int.tmod K 8 + 8)) 8 ∧ Int.tmod (wrap64 (Int.tmod K 8 + 8)) 8 ≤ 7 := by
 have h1 := Int.lt_tmod_of_pos K (show (0 : Int) < 8 by decide)
 have h2 := Int.tmod_lt_of_pos K (show (0 : Int) < 8 by decide)
 have e : wrap64 (Int.tmod K 8 + 8) = Int.tmod K 8 + 8 := by unfold wrap64; omega
 rw [e, Int.tmod_eq_emod_of_nonneg (by omega)]
 omega
theorem DoesR.symm {W0 : World} {bw i i' bs bo : Nat} {e : Ending} {w' : World} (h : DoesR W0 bw i i' bs bo e w') : DoesR W0 bw i' i bo bs e w' := by
 obtain ⟨h1, X, Y, h2⟩ := h
 exact ⟨h1, Y, X, h2.symm⟩
theorem does_one (W0 W : World) (bw i i' bs bo : Nat) {X Y : ST} (h : Duo W0 W bw i i' bs bo X Y X Y) (K On k H Ru : Int) (At : Option Addr) (ct : Nat) (t : Tp) (hk : Sl W0 At ct t) (hz : t.length * 8 ≤ 140737488351232) (hOn : bits BinOp.and IntKind.i64 On 1 = (i : Int)) :
  Calls Tryz.prog 34 #[.pointer (some ⟨bw, 0, none⟩), .agg #[.int .i64 K, .int .i64 On, .int .i64 k, .int .i64 H, .int .i64 Ru, .slice At t.length ct]] W (DoesR W0 bw i i' bs bo) := by
 have hr := kind8 K
 obtain ⟨r, e⟩ : ∃ r, r = Int.tmod (wrap64 (Int.tmod K 8 + 8)) 8 := ⟨_, rfl⟩
 rw [← e] at hr
 rcases (by omega : r = 0 ∨ r = 1 ∨ r = 2 ∨ r = 3 ∨ r = 4 ∨ r = 5 ∨ r = 6 ∨ r = 7) with h0 | h0 | h0 | h0 | h0 | h0 | h0 | h0
 ·exact does_put0 W0 W bw i i' bs bo h K On k H Ru At ct t hk hz hOn (e.symm.trans h0)
 ·exact does_has W0 W bw i i' bs bo h K On k H Ru At ct t hk hz hOn (e.symm.trans h0)
 ·cases hl : lookF X.2 t with
  | none => exact does_note_none W0 W bw i i' bs bo h K On k H Ru At ct t hk hz hOn (e.symm.trans h0) hl
  | some n => exact does_note_some W0 W bw i i' bs bo h K On k H Ru At ct t hk hz hOn (e.symm.trans h0) n hl
 ·exact does_find W0 W bw i i' bs bo h K On k H Ru At ct t hk hz hOn (e.symm.trans h0)
 ·by_cases hl : X.1 = Y.1
  ·exact does_merge W0 W bw i i' bs bo h K On k H Ru At ct t hk hz hOn (e.symm.trans h0) hl
  ·exact does_merge_no W0 W bw i i' bs bo h K On k H Ru At ct t hk hz hOn (e.symm.trans h0) hl
 ·by_cases hl : X.1 = Y.1
  ·exact does_swap W0 W bw i i' bs bo h K On k H Ru At ct t hk hz hOn (e.symm.trans h0) hl
  ·exact does_swap_no W0 W bw i i' bs bo h K On k H Ru At ct t hk hz hOn (e.symm.trans h0) hl
 ·exact does_clear W0 W bw i i' bs bo h K On k H Ru At ct t hk hz hOn (e.symm.trans h0)
 ·exact does_put7 W0 W bw i i' bs bo h K On k H Ru At ct t hk hz hOn (e.symm.trans h0)
theorem does_calls (W0 W : World) (bw b0 b1 : Nat) {X Y : ST} (h : Duo W0 W bw 0 1 b0 b1 X Y X Y) (K On k H Ru : Int) (At : Option Addr) (ct : Nat) (t : Tp) (hk : Sl W0 At ct t) (hz : t.length * 8 ≤ 140737488351232) :
  Calls Tryz.prog 34 #[.pointer (some ⟨bw, 0, none⟩), .agg #[.int .i64 K, .int .i64 On, .int .i64 k, .int .i64 H, .int .i64 Ru, .slice At t.length ct]] W (DoesR W0 bw 0 1 b0 b1) := by
 rcases and_one On with h1 | h1
 ·exact does_one W0 W bw 0 1 b0 b1 h K On k H Ru At ct t hk hz h1
 ·exact (does_one W0 W bw 1 0 b1 b0 h.symm K On k H Ru At ct t hk hz h1).mono fun _ _ => DoesR.symm
structure ActE (W : World) (A : Option Addr) (i : Nat) (K On k H Ru : Int) (At : Option Addr) (ct : Nat) (t : Tp) : Prop where
 ex : ∃ ad, A = some ad ∧ W.cell? (ad.add (i * 6)) = some (.int .i64 K) ∧ W.cell? ⟨(ad.add (i * 6)).block, (ad.add (i * 6)).off + 1, none⟩ = some (.int .i64 On) ∧ W.cell? ⟨(ad.add (i * 6)).block, (ad.add (i * 6)).off + 2, none⟩ = some (.int .i64 k) ∧ W.cell? ⟨(ad.add (i * 6)).block, (ad.add (i * 6)).off + 3, none⟩ = some (.int .i64 H) ∧ W.cell? ⟨(ad.add (i * 6)).block, (ad.add (i * 6)).off + 4, none⟩ = some (.int .i64 Ru) ∧ W.cell? ⟨(ad.add (i * 6)).block, (ad.add (i * 6)).off + 5, none⟩ = some (.slice At t.length ct)
 sl : Sl W At ct t
 z : t.length * 8 ≤ 140737488351232
def Acts (W : World) (A : Option Addr) (n : Nat) : Prop := ∀ i, i < n → ∃ K On k H Ru At ct t, ActE W A i K On k H Ru At ct t
end Go.Proofs.YtcmllllbmgcnlaaGreat.Rl
end
section
namespace Go.Proofs.YtcmllllbmgcnlaaGreat.Rl
open Go.ChangeShapes Go.WideShapes Go.ChangeAt Go.Joins Go.RowKit Go.Lib Go.Shelf Go.Proofs.YtcmllllbmgcnlaaGreat.G Go.Proofs.YtcmllllbmgcnlaaGreat.Tup Go.Proofs.YtcmllllbmgcnlaaGreatW Go.Proofs.YtcmllllbmgcnlaaGreatW.PrintWords Go.Proofs.YtcmllllbmgcnlaaGreatW.PrintLast Go.Proofs.YtcmllllbmgcnlaaGreatW.PrintMore
open Go.Proofs.YtcmllllbmgcnlaaGreat.Ch (rwrongS)
set_option linter.unusedVariables false
set_option linter.unusedSimpArgs false
section
variable {H : Type} {enc : TypeId × Value → H} {W : World} {base b0 : Nat} {held : Bool}
set_option maxRecDepth 100000 in
theorem open_arr2 {v : Value} {d : DataW H} {p : List MemPlace} (hv : Value.okWide Tryz.prog W .any b0 43 v) (h : DataW.Trod enc Tryz.prog W base (fun _ => true) held 43 v d p) :
  ∃ A1 c1 l1 A2 c2 l2, v = .agg #[.slice A1 l1.length c1, .slice A2 l2.length c2] ∧ Sl W A1 c1 l1 ∧ Sl W A2 c2 l2 := by
 obtain ⟨cs, rfl, hs⟩ := okWide_array Tryz.underlying43 hv
 obtain ⟨x, y, rfl⟩ := arr_two (hs.trans (by kernel_rfl))
 obtain ⟨fuel, hf⟩ := h
 obtain ⟨y0, y1, n, _, h0, h1⟩ := trod_array2 Tryz.underlying43 (by kernel_rfl) hf
 obtain ⟨A1, m1, c1, e1⟩ := slice_form Tryz.underlying23 h0
 obtain ⟨A2, m2, c2, e2⟩ := slice_form Tryz.underlying23 h1
 simp only [List.cons.injEq, and_true] at e1 e2
 subst e1 e2
 obtain ⟨l1, rfl, s1, _⟩ := sl_of_trod h0
 obtain ⟨l2, rfl, s2, _⟩ := sl_of_trod h1
 exact ⟨A1, c1, l1, A2, c2, l2, rfl, s1, s2⟩
end
end Go.Proofs.YtcmllllbmgcnlaaGreat.Rl
end
section
namespace Go.Proofs.YtcmllllbmgcnlaaGreat.Rl
open Go.ChangeShapes Go.WideShapes Go.ChangeAt Go.RowKit Go.Joins Go.Proofs.YtcmllllbmgcnlaaGreat.G Go.Proofs.YtcmllllbmgcnlaaGreat.Tup Go.Proofs.YtcmllllbmgcnlaaGreatW Go.Proofs.YtcmllllbmgcnlaaGreatW.PrintWords
set_option linter.unusedVariables false
set_option linter.unusedSimpArgs false
section
variable {H : Type} {enc : TypeId × Value → H} {W : World} {base b0 : Nat} {held : Bool}
theorem trod_struct6 {P : Program} {w : World} {sp : Nat → Bool} {t : TypeId} {f0 f1 f2 f3 f4 f5 : Field} {fuel : Nat} {cs : List Value} {x : DataW H × List MemPlace} (ht : P.underlying t = some (.struct #[f0, f1, f2, f3, f4, f5])) (h : DataW.trod enc P w base sp held fuel t cs = some x) :
  ∃ y0 y1 y2 y3 y4 y5 n, x.1 = .agg [y0.1, y1.1, y2.1, y3.1, y4.1, y5.1] ∧ cs.length = P.cellsOf t ∧ DataW.trod enc P w base sp held n f0.type ((cs.drop f0.offset).take (P.cellsOf f0.type)) = some y0 ∧
   DataW.trod enc P w base sp held n f1.type ((cs.drop f1.offset).take (P.cellsOf f1.type)) = some y1 ∧ DataW.trod enc P w base sp held n f2.type ((cs.drop f2.offset).take (P.cellsOf f2.type)) = some y2 ∧
   DataW.trod enc P w base sp held n f3.type ((cs.drop f3.offset).take (P.cellsOf f3.type)) = some y3 ∧ DataW.trod enc P w base sp held n f4.type ((cs.drop f4.offset).take (P.cellsOf f4.type)) = some y4 ∧ DataW.trod enc P w base sp held n f5.type ((cs.drop f5.offset).take (P.cellsOf f5.type)) = some y5 := by
 obtain ⟨xs, n, _, rfl, hl, hlen, hf⟩ := DataW.trod_struct ht h
 match xs, hlen with
 | [y0, y1, y2, y3, y4, y5], _ => exact ⟨y0, y1, y2, y3, y4, y5, n, by simp, hl, by simpa using hf 0 f0 rfl, by simpa using hf 1 f1 rfl, by simpa using hf 2 f2 rfl, by simpa using hf 3 f3 rfl, by simpa using hf 4 f4 rfl, by simpa using hf 5 f5 rfl⟩
set_option maxRecDepth 100000 in
theorem open_int2 {v : Value} {d : DataW H} {p : List MemPlace} (hv : Value.okWide Tryz.prog W .any b0 55 v) (h : DataW.Trod enc Tryz.prog W base (fun _ => true) held 55 v d p) : ∃ x y, v = .agg #[.int .i64 x, .int .i64 y] := by
 obtain ⟨cs, rfl, hs⟩ := okWide_array Tryz.underlying55 hv
 obtain ⟨a, b, rfl⟩ := arr_two (hs.trans (by kernel_rfl))
 obtain ⟨fuel, hf⟩ := h
 obtain ⟨y0, y1, n, _, h0, h1⟩ := trod_array2 Tryz.underlying55 (by kernel_rfl) hf
 obtain ⟨x, hx, _, _⟩ := DataW.trod_int Tryz.underlying3 h0
 obtain ⟨y, hy, _, _⟩ := DataW.trod_int Tryz.underlying3 h1
 simp only [List.cons.injEq, and_true] at hx hy
 subst hx hy
 exact ⟨x, y, rfl⟩
set_option maxRecDepth 100000 in
theorem open_acts {v : Value} {d : DataW H} {p : List MemPlace} {ts : List TypeId} {ds : List (DataW H)} {j : Nat} (hsz : (DataW.weightsEach Tryz.prog ts ds).all (· ≤ reachBytes) = true) (ht : ts[j]? = some 80) (hd : ds[j]? = some d) (hv : Value.okWide Tryz.prog W .any b0 80 v) (h : DataW.Trod enc Tryz.prog W base (fun _ => true) held 80 v d p) :
  ∃ A n c, v = .slice A n c ∧ Acts W A n ∧ n ≤ 140737488355328 := by
 obtain ⟨a, len, cap, rfl⟩ := okWide_slice Tryz.underlying80 hv
 obtain ⟨fuel, hf⟩ := h
 have hz : ∀ x ∈ d.weights Tryz.prog 80, x ≤ reachBytes := fun x hx => of_decide_eq_true ((List.all_eq_true.1 hsz) x (DataW.weights_mem_each ht hd x hx))
 rcases Go.Deep.open_slice Tryz.underlying80 hf with ⟨hcs, _⟩ | ⟨a', l', c', m, n, D, Pl, hcs, _, hl, hm, hmm, hdd, hx⟩
 ·simp [Value.cells] at hcs
  obtain ⟨rfl, rfl, rfl⟩ := hcs
  exact ⟨none, 0, 0, rfl, fun i hi => absurd hi (Nat.not_lt_zero _), by omega⟩
 ·simp [Value.cells] at hcs
  obtain ⟨rfl, rfl, rfl⟩ := hcs
  simp only [if_true] at hmm
  subst hmm
  have hd' : d = .slice ((List.range len).map D) ((List.range (m - len)).map fun j => D (len + j)) := by
   injection hdd
  have hc6 : Tryz.prog.cellsOf 85 = 6 := by kernel_rfl
  have hc3 : Tryz.prog.cellsOf 3 = 1 := by kernel_rfl
  have hc22 : Tryz.prog.cellsOf 23 = 1 := by kernel_rfl
  have hb60 : Tryz.prog.bytesOf 85 = 64 := by kernel_rfl
  rw [hd', DataW.weights, Tryz.underlying80] at hz
  refine ⟨some a', len, m, rfl, fun i hi => ?_, ?_⟩
  ·obtain ⟨cs, h1, h2⟩ := hx i (by omega)
   rw [hc6] at h1
   obtain ⟨_, hlen, hcell⟩ := World.cells?_some h1
   obtain ⟨y0, y1, y2, y3, y4, y5, n', hy, _, e0, e1, e2, e3, e4, e5⟩ := trod_struct6 Tryz.underlying85 h2
   match cs, hlen with
   | [v0, v1, v2, v3, v4, v5], _ =>
    simp only [hc3, hc22, List.drop_zero, List.drop_succ_cons, List.take_succ_cons, List.take_zero] at e0 e1 e2 e3 e4 e5
    obtain ⟨K, hk0, _, _⟩ := DataW.trod_int Tryz.underlying3 e0
    obtain ⟨On, hk1, _, _⟩ := DataW.trod_int Tryz.underlying3 e1
    obtain ⟨k, hk2, _, _⟩ := DataW.trod_int Tryz.underlying3 e2
    obtain ⟨Hh, hk3, _, _⟩ := DataW.trod_int Tryz.underlying3 e3
    obtain ⟨Ru, hk4, _, _⟩ := DataW.trod_int Tryz.underlying3 e4
    obtain ⟨At, lt, ct, hk5⟩ := slice_form Tryz.underlying23 e5
    simp only [List.cons.injEq, and_true] at hk0 hk1 hk2 hk3 hk4 hk5
    subst hk0 hk1 hk2 hk3 hk4 hk5
    obtain ⟨t, rfl, hs, _⟩ := sl_of_trod e5
    have hw : D i = (DataW.agg [y0.1, y1.1, y2.1, y3.1, y4.1, y5.1]) := hy
    refine ⟨K, On, k, Hh, Ru, At, ct, t, ⟨a', rfl, ?_, ?_, ?_, ?_, ?_, ?_⟩, hs, ?_⟩
    ·simpa [Addr.add] using hcell 0 (by omega)
    ·simpa [Addr.add] using hcell 1 (by omega)
    ·simpa [Addr.add] using hcell 2 (by omega)
    ·simpa [Addr.add] using hcell 3 (by omega)
    ·simpa [Addr.add] using hcell 4 (by omega)
    ·simpa [Addr.add] using hcell 5 (by omega)
    ·refine sl_sized (d := y5.1) (ps := y5.2) e5 fun x hx' => hz x ?_
     refine List.mem_cons.2 (.inr (List.mem_append.2 (.inl (weights_all (List.mem_map.2 ⟨i, List.mem_range.2 hi, rfl⟩) x ?_))))
     rw [hw, DataW.weights, Tryz.underlying85]
     exact DataW.weights_mem_each (j := 5) rfl rfl x hx'
  ·have := hz _ (List.mem_cons_self)
   rw [hb60] at this
   simp at this
   unfold reachBytes at this
   omega
end
end Go.Proofs.YtcmllllbmgcnlaaGreat.Rl
end
