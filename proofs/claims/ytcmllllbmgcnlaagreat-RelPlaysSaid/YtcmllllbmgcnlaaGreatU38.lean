/- Own texts, joined and cut to what the claim stands on: RlPlays, RlPlays2. -/
import Derived.Test.YtcmllllbmgcnlaaGreatU37
import Derived.Test.YtcmllllbmgcnlaaGreatU36
section
namespace Go.Proofs.YtcmllllbmgcnlaaGreat.Rl
open Go.RowKit Go.Lib Go.Shelf Go.Proofs.YtcmllllbmgcnlaaGreat.G Go.Proofs.YtcmllllbmgcnlaaGreat.Tup Go.Proofs.YtcmllllbmgcnlaaGreatW.PrintWords Go.Proofs.YtcmllllbmgcnlaaGreatW.PrintLast Go.Proofs.YtcmllllbmgcnlaaGreatW.PrintMore
set_option linter.unusedVariables false
set_option linter.unusedSimpArgs false
theorem beg_duo {W w : World} {bw : Nat} (h : BegS W bw 2 w) (hb : Below W.heap.size W w) (hw : W.heap.size ≤ bw) : ∃ b0 b1 X Y, Duo W w bw 0 1 b0 b1 X Y X Y := by
 rcases h with ⟨h, _⟩ | ⟨h, _⟩ | ⟨_, b0, w0, F, b1, w1, F', hp, h1, h2, h3, h4, h5, h6⟩
 ·cases h
 ·cases h
 have hlt := (Array.getElem?_eq_some_iff.1 hp).1
 have hR : ∀ wd, RowsOk wd [] := fun wd => ⟨List.Pairwise.nil, by simp, by simp, by simp⟩
 refine ⟨b0, b1, (w0, []), (w1, []), .inl ⟨rfl, rfl⟩, hb, (Tup.cell_of_heap hp 0).trans rfl, (Tup.cell_of_heap hp 1).trans rfl, fun j => free_of_heap hp j, F, F', fun _ => False, fun _ => False, h1, h4, ⟨none, 0, [], (Tup.cell_of_heap hp 2).trans rfl, (Tup.cell_of_heap hp 3).trans rfl, free_of_heap hp _, World.ownsRow_nil _ _ _ _, (fun k hk => by cases hk), (fun e he => by cases he), (fun e he => by cases he), rfl, h3, hR _⟩, ⟨none, 0, [], (Tup.cell_of_heap hp 4).trans rfl, (Tup.cell_of_heap hp 5).trans rfl, free_of_heap hp _, World.ownsRow_nil _ _ _ _, (fun k hk => by cases hk), (fun e he => by cases he), (fun e he => by cases he), rfl, h6, hR _⟩, ⟨fun k hk => ?_, fun k hk => ?_, fun k hk => hk.elim, fun k hk => hk.elim, hw, hlt⟩⟩
 ·have := h2 k hk
  exact ⟨⟨by omega, this.2⟩, fun h => (h5 k h).2.2 hk, id, id, by omega⟩
 ·have := h5 k hk
  exact ⟨⟨by omega, this.2.1⟩, this.2.2, id, id, by omega⟩
section
variable {W0 W : World} {bw i i' bs bo : Nat} {X Y P Q : ST}
theorem Duo.len (h : Duo W0 W bw i i' bs bo X Y P Q) : Calls Tryz.prog 15 #[.pointer (some ⟨bs, 0, none⟩)] W fun e w' => e = .returned (.int .i64 (X.2.length : Int)) ∧ Since W w' := by
 obtain ⟨F1, F2, G1, G2, ⟨ok, os, m, bss, hR, _⟩, _⟩ := h.ex
 exact (rlen_calls hR).mono fun e w' hp => ⟨hp.1, hp.2 ▸ Since.refl _⟩
theorem Duo.width (h : Duo W0 W bw i i' bs bo X Y P Q) : Calls Tryz.prog 31 #[.pointer (some ⟨bs, 0, none⟩)] W fun e w' => e = .returned (.int .i64 (X.1 : Int)) ∧ Since W w' := by
 obtain ⟨F1, F2, G1, G2, ⟨ok, os, m, bss, hR, _⟩, _⟩ := h.ex
 obtain ⟨_, _, _, _, hp, _⟩ := hR.hp
 exact (rwidth_calls W bs X.1 (rec_of hp).c0 (rec_of hp).c1).mono fun e w' hp => ⟨hp.1, hp.2 ▸ Since.refl _⟩
theorem Duo.all (h : Duo W0 W bw i i' bs bo X Y X Y) : Calls Tryz.prog 25 #[.pointer (some ⟨bs, 0, none⟩)] W fun e w' => ∃ lb : Array Value, e = .returned (.func (.func 54) #[] lb) ∧ Since W w' ∧ Aside0 (∀ w3 A n c, Since w' w3 → w3.cell? ⟨bw, 2 + 2 * i + 1, none⟩ = some (.slice A n c) → Calls Tryz.prog 28 #[.func (.func 54) #[] lb, .slice A n c] w3 fun e w4 => e = .returned (.bool true) ∧ Since w3 w4) := by
 have hD := h
 obtain ⟨F1, F2, G1, G2, ⟨ok, os, m, bss, hR, _⟩, e2, ⟨A', c', es, e3⟩, _⟩ := h.ex
 refine (rall_calls W (.pointer (some ⟨bs, 0, none⟩)) ⟨_, rfl⟩).mono ?_
 rintro e w' ⟨rfl, rfl⟩
 have hs : Since W (W.alloc (.cells #[.pointer (some ⟨bs, 0, none⟩)] 24)) := (Since.refl W).alloc _
 refine ⟨_, rfl, hs, ⟨fun w3 A n c h3 hc => ?_⟩⟩
 have hr3 := hR.below (hs.trans h3).b
 have e33 := e3.since (hs.trans h3)
 have hcc := e33.c1
 rw [hc] at hcc
 injection hcc with hcc
 injection hcc with q1 q2 q3
 subst q1 q2 q3
 have hw := walked_calls w3 _ _ rall_enters X.2 (fun x hx => hr3.hR.nt x hx) (fun x hx => by have := hr3.hR.wd x hx; have := hr3.hos.w8; omega) hr3.hR.le (rall_seq hr3 W.heap.size (pw_cell_below h3.b ((Tup.cell_of_heap (heap_alloc_new _ (.cells #[.pointer (some ⟨bs, 0, none⟩)] 24)) 0).trans rfl))) A c X.2 e33.C
 rw [decide_eq_true rfl] at hw
 exact hw.mono fun e w' h => ⟨h.1, ⟨h.2⟩⟩
end
set_option maxHeartbeats 16000000 in
set_option maxRecDepth 100000 in
theorem plays_walk (W : World) (x0 x1 : Int) (A0 : Option Addr) (c0 : Nat) (l0 : List Int) (h0 : Sl W A0 c0 l0) (A1 : Option Addr) (c1 : Nat) (l1 : List Int) (h1 : Sl W A1 c1 l1) (A2 : Option Addr) (n c2 : Nat) (hA : Acts W A2 n) (hn : n ≤ 140737488355328) :
  Calls Tryz.prog 10 #[.agg #[.int .i64 x0, .int .i64 x1], .agg #[.slice A0 l0.length c0, .slice A1 l1.length c1], .slice A2 n c2] W fun e w' => e = .returned (.bool true) ∧ Below W.heap.size W w' := by
 have hs2 : Since W ((W.alloc (.cells #[.int .i64 x0, .int .i64 x1] 55)).alloc (.cells #[.slice A0 l0.length c0, .slice A1 l1.length c1] 43)) := ((Since.refl W).alloc _).alloc _
 have hB := begun_calls _ x0 x1 A0 c0 l0 (hs2.sl h0) A1 c1 l1 (hs2.sl h1)
 obtain ⟨W2, hW2⟩ : ∃ W2, W2 = (W.alloc (.cells #[.int .i64 x0, .int .i64 x1] 55)).alloc (.cells #[.slice A0 l0.length c0, .slice A1 l1.length c1] 43) := ⟨_, rfl⟩
 have HWW := Aside0.mk hW2
 have HS2 := Aside0.mk hs2
 have HA := Aside0.mk hA
 have HB := Aside0.mk hB
 clear h0 h1 hA hs2 hB
 go_enter Tryz.func10, Tryz.ntmps10
 go_wp2_with (first
  | (go_at_call 33; go_loud (refine HB.out.mono ?_); rintro e w1 ⟨hb1, rfl | ⟨bw, hbw, rfl, hD⟩⟩)
  | (go_at_call 12; refine (alive_calls _).mono ?_; rintro e w2 ⟨rfl, hb2⟩; have HS3 := Aside0.mk (Since.trans ⟨hb1⟩ ⟨hb2⟩)))
 ·go_ret
  exact ⟨rfl, (HS2.out.trans HS3.out).b⟩
 ·obtain ⟨b0, b1, X, Y, hDD⟩ := beg_duo hD hb1 hbw
  have HD := Aside0.mk (hDD.since ⟨hb2⟩)
  clear hb1 hbw hD hb2 hDD HB
  rw [← hW2] at HD HS3 HS2
  clear hW2
  go_loopg [28] n (fun gk v28 wr => ∃ i : Nat, v28 = .int .i64 (i : Int) ∧ Aside0 (i + gk = n) ∧ Aside0 (∃ X Y, Duo W2 wr bw 0 1 b0 b1 X Y X Y))
  case atStart => exact ⟨0, rfl, ⟨by omega⟩, ⟨_, _, HD.out⟩⟩
  case round =>
   obtain ⟨i, rfl, HI, HDD⟩ := hrel
   by_cases hi : i < n
   ·have hii : (i : Int) < (n : Int) := by omega
    have hid : decide (i < n) = true := decide_eq_true hi
    obtain ⟨K, On, k, H, Ru, At, ct, t, ⟨⟨ad, rfl, cc0, cc1, cc2, cc3, cc4, cc5⟩, sl, z⟩⟩ := HA.out i hi
    obtain ⟨X', Y', hD⟩ := HDD.out
    have hbl : Since W wr := HS2.out.trans ⟨hD.low⟩
    have c0' := pw_cell_below hbl.b cc0
    have c1' := pw_cell_below hbl.b cc1
    have c2' := pw_cell_below hbl.b cc2
    have c3' := pw_cell_below hbl.b cc3
    have c4' := pw_cell_below hbl.b cc4
    have c5' := pw_cell_below hbl.b cc5
    have hs1 : Since wr (wr.alloc (.cells #[.int .i64 K, .int .i64 On, .int .i64 k, .int .i64 H, .int .i64 Ru, .slice At t.length ct] 85)) := (Since.refl wr).alloc _
    have hDo := Aside0.mk (does_calls W2 _ bw b0 b1 (hD.since hs1) K On k H Ru At ct t (HS2.out.sl sl) z)
    clear cc0 cc1 cc2 cc3 cc4 cc5 sl z hD hs1 hbl
    go_wp2_with (first
     | (go_at_call 34; go_loud (refine hDo.out.mono ?_); rintro e w6 ⟨rfl, hd6⟩; have HD6 := Aside0.mk hd6; clear hd6))
    obtain ⟨k2, hk2⟩ : ∃ k2, k2 = gk - 1 := ⟨_, rfl⟩
    go_roundg k2
    case measure => have := HI.out; omega
    case rel => exact ⟨i + 1, by go_num, ⟨by have := HI.out; omega⟩, HD6⟩
   ·have hii : ¬ (i : Int) < (n : Int) := by omega
    have hid : decide (i < n) = false := decide_eq_false hi
    obtain ⟨X', Y', hD⟩ := HDD.out
    have HDU := Aside0.mk hD
    clear hD HDD HI
    go_wp2_with fail
    go_loopg [37] 2 (fun gk v37 wz => ∃ j : Nat, v37 = .int .i64 (j : Int) ∧ Aside0 (j + gk = 2) ∧ Aside0 (Since wr wz))
    case atStart => exact ⟨0, rfl, ⟨by omega⟩, ⟨Since.refl _⟩⟩
    case round =>
     obtain ⟨j, rfl, HJ, HSJ⟩ := hrel
     rcases (show j = 0 ∨ j = 1 ∨ j = 2 from by have := HJ.out; omega) with rfl | rfl | rfl
     ·have hd := (HDU.out).since HSJ.out
      obtain ⟨Al, cl, k8, k9⟩ := hd.rcell
      obtain ⟨m, hm⟩ : ∃ m, m = X'.2.length := ⟨_, rfl⟩
      obtain ⟨xw, hxw⟩ : ∃ x, x = X'.1 := ⟨_, rfl⟩
      rw [← hm] at k9
      rw [← hxw] at k8
      simp only [Nat.reduceMul, Nat.reduceAdd] at k8 k9
      have k0 := hd.cs
      have HKP := Aside0.mk (show ∀ w', Since wr w' → (w'.cell? ⟨bw, 0, none⟩ = some (.pointer (some ⟨b0, 0, none⟩)) ∧ w'.cell? ⟨bw, 2, none⟩ = some (.int .i64 (xw : Int)) ∧ w'.cell? ⟨bw, 3, none⟩ = some (.slice Al m cl)) ∧ Since wr w' from fun w' hs => ⟨⟨pw_cell_below hs.b k0, pw_cell_below hs.b k8, pw_cell_below hs.b k9⟩, hs⟩)
      have HLN := Aside0.mk (fun (w2 : World) (hs : Since wr w2) => (hd.since hs).len)
      have HWI := Aside0.mk (fun (w2 : World) (hs : Since wr w2) => (hd.since hs).width)
      have HAL := Aside0.mk (fun (w2 : World) (hs : Since wr w2) => (hd.since hs).all)
      rw [← hm] at HLN
      rw [← hxw] at HWI
      simp only [Nat.reduceMul, Nat.reduceAdd] at HAL
      have hmm : m ≤ 1024 := by rw [hm]; exact hd.rows.1.le
      have zm : ((m : Int) != (m : Int)) = false := by simp
      have zx : ((xw : Int) != (xw : Int)) = false := by simp
      clear hd hm hxw
      go_wp2_with fail
      have hS0 : Since wr wr.drew := (Since.refl wr).drew
      go_region_held3 (fun w' => (w'.cell? ⟨bw, 0, none⟩ = some (.pointer (some ⟨b0, 0, none⟩)) ∧ w'.cell? ⟨bw, 2, none⟩ = some (.int .i64 (xw : Int)) ∧ w'.cell? ⟨bw, 3, none⟩ = some (.slice Al m cl)) ∧ Since wr w')
       (first | exact HKP.out _ hS0 | exact HKP.out _ (by ((try go_split_ands); first | exact Since.refl _ | assumption | exact Since.trans (by assumption) (by assumption) | exact Since.trans (Since.trans (by assumption) (by assumption)) (by assumption) | exact Since.trans (Since.trans (Since.trans (by assumption) (by assumption)) (by assumption)) (by assumption))))
       (first
       | (go_at_call 15; go_loud (refine (HLN.out _ (by ((try go_split_ands); first | exact Since.refl _ | assumption | exact Since.trans (by assumption) (by assumption) | exact Since.trans (Since.trans (by assumption) (by assumption)) (by assumption) | exact Since.trans (Since.trans (Since.trans (by assumption) (by assumption)) (by assumption)) (by assumption)))).mono ?_); rintro e w' ⟨rfl, hs5⟩)
       | (go_at_call 31; go_loud (refine (HWI.out _ (by ((try go_split_ands); first | exact Since.refl _ | assumption | exact Since.trans (by assumption) (by assumption) | exact Since.trans (Since.trans (by assumption) (by assumption)) (by assumption) | exact Since.trans (Since.trans (Since.trans (by assumption) (by assumption)) (by assumption)) (by assumption)))).mono ?_); rintro e w' ⟨rfl, hs6⟩)
       | (go_at_call 25; go_loud (refine (HAL.out _ (by ((try go_split_ands); first | exact Since.refl _ | assumption | exact Since.trans (by assumption) (by assumption) | exact Since.trans (Since.trans (by assumption) (by assumption)) (by assumption) | exact Since.trans (Since.trans (Since.trans (by assumption) (by assumption)) (by assumption)) (by assumption)))).mono ?_); rintro e w' ⟨lb, rfl, hs7, HL7⟩)
       | (go_at_call 28; go_loud (refine (HL7.out _ Al m cl (by ((try go_split_ands); first | exact Since.refl _ | assumption | exact Since.trans (by assumption) (by assumption) | exact Since.trans (Since.trans (by assumption) (by assumption)) (by assumption) | exact Since.trans (Since.trans (Since.trans (by assumption) (by assumption)) (by assumption)) (by assumption))) (HKP.out _ (by ((try go_split_ands); first | exact Since.refl _ | assumption | exact Since.trans (by assumption) (by assumption) | exact Since.trans (Since.trans (by assumption) (by assumption)) (by assumption) | exact Since.trans (Since.trans (Since.trans (by assumption) (by assumption)) (by assumption)) (by assumption)))).1.2.2).mono ?_); rintro e w' ⟨rfl, hs8⟩))
      have hs9 : Since wr w' := by go_split_ands; assumption
      have HS9 := Aside0.mk hs9
      clear hs5 hs6 hs7 hs8 hs9 HL7
      go_wp2_with fail
      obtain ⟨k2, hk2⟩ : ∃ k2, k2 = gk - 1 := ⟨_, rfl⟩
      go_roundg k2
      case measure => have := HJ.out; omega
      case rel => exact ⟨1, rfl, ⟨by have := HJ.out; omega⟩, ⟨HSJ.out.trans HS9.out⟩⟩
     ·have hd := (HDU.out.symm).since HSJ.out
      obtain ⟨Al, cl, k8, k9⟩ := hd.rcell
      obtain ⟨m, hm⟩ : ∃ m, m = Y'.2.length := ⟨_, rfl⟩
      obtain ⟨xw, hxw⟩ : ∃ x, x = Y'.1 := ⟨_, rfl⟩
      rw [← hm] at k9
      rw [← hxw] at k8
      simp only [Nat.reduceMul, Nat.reduceAdd] at k8 k9
      have k0 := hd.cs
      have HKP := Aside0.mk (show ∀ w', Since wr w' → (w'.cell? ⟨bw, 1, none⟩ = some (.pointer (some ⟨b1, 0, none⟩)) ∧ w'.cell? ⟨bw, 4, none⟩ = some (.int .i64 (xw : Int)) ∧ w'.cell? ⟨bw, 5, none⟩ = some (.slice Al m cl)) ∧ Since wr w' from fun w' hs => ⟨⟨pw_cell_below hs.b k0, pw_cell_below hs.b k8, pw_cell_below hs.b k9⟩, hs⟩)
      have HLN := Aside0.mk (fun (w2 : World) (hs : Since wr w2) => (hd.since hs).len)
      have HWI := Aside0.mk (fun (w2 : World) (hs : Since wr w2) => (hd.since hs).width)
      have HAL := Aside0.mk (fun (w2 : World) (hs : Since wr w2) => (hd.since hs).all)
      rw [← hm] at HLN
      rw [← hxw] at HWI
      simp only [Nat.reduceMul, Nat.reduceAdd] at HAL
      have hmm : m ≤ 1024 := by rw [hm]; exact hd.rows.1.le
      have zm : ((m : Int) != (m : Int)) = false := by simp
      have zx : ((xw : Int) != (xw : Int)) = false := by simp
      clear hd hm hxw
      go_wp2_with fail
      have hS0 : Since wr wr.drew := (Since.refl wr).drew
      go_region_held3 (fun w' => (w'.cell? ⟨bw, 1, none⟩ = some (.pointer (some ⟨b1, 0, none⟩)) ∧ w'.cell? ⟨bw, 4, none⟩ = some (.int .i64 (xw : Int)) ∧ w'.cell? ⟨bw, 5, none⟩ = some (.slice Al m cl)) ∧ Since wr w')
       (first | exact HKP.out _ hS0 | exact HKP.out _ (by ((try go_split_ands); first | exact Since.refl _ | assumption | exact Since.trans (by assumption) (by assumption) | exact Since.trans (Since.trans (by assumption) (by assumption)) (by assumption) | exact Since.trans (Since.trans (Since.trans (by assumption) (by assumption)) (by assumption)) (by assumption))))
       (first
       | (go_at_call 15; go_loud (refine (HLN.out _ (by ((try go_split_ands); first | exact Since.refl _ | assumption | exact Since.trans (by assumption) (by assumption) | exact Since.trans (Since.trans (by assumption) (by assumption)) (by assumption) | exact Since.trans (Since.trans (Since.trans (by assumption) (by assumption)) (by assumption)) (by assumption)))).mono ?_); rintro e w' ⟨rfl, hs5⟩)
       | (go_at_call 31; go_loud (refine (HWI.out _ (by ((try go_split_ands); first | exact Since.refl _ | assumption | exact Since.trans (by assumption) (by assumption) | exact Since.trans (Since.trans (by assumption) (by assumption)) (by assumption) | exact Since.trans (Since.trans (Since.trans (by assumption) (by assumption)) (by assumption)) (by assumption)))).mono ?_); rintro e w' ⟨rfl, hs6⟩)
       | (go_at_call 25; go_loud (refine (HAL.out _ (by ((try go_split_ands); first | exact Since.refl _ | assumption | exact Since.trans (by assumption) (by assumption) | exact Since.trans (Since.trans (by assumption) (by assumption)) (by assumption) | exact Since.trans (Since.trans (Since.trans (by assumption) (by assumption)) (by assumption)) (by assumption)))).mono ?_); rintro e w' ⟨lb, rfl, hs7, HL7⟩)
       | (go_at_call 28; go_loud (refine (HL7.out _ Al m cl (by ((try go_split_ands); first | exact Since.refl _ | assumption | exact Since.trans (by assumption) (by assumption) | exact Since.trans (Since.trans (by assumption) (by assumption)) (by assumption) | exact Since.trans (Since.trans (Since.trans (by assumption) (by assumption)) (by assumption)) (by assumption))) (HKP.out _ (by ((try go_split_ands); first | exact Since.refl _ | assumption | exact Since.trans (by assumption) (by assumption) | exact Since.trans (Since.trans (by assumption) (by assumption)) (by assumption) | exact Since.trans (Since.trans (Since.trans (by assumption) (by assumption)) (by assumption)) (by assumption)))).1.2.2).mono ?_); rintro e w' ⟨rfl, hs8⟩))
      have hs9 : Since wr w' := by go_split_ands; assumption
      have HS9 := Aside0.mk hs9
      clear hs5 hs6 hs7 hs8 hs9 HL7
      go_wp2_with fail
      obtain ⟨k2, hk2⟩ : ∃ k2, k2 = gk - 1 := ⟨_, rfl⟩
      go_roundg k2
      case measure => have := HJ.out; omega
      case rel => exact ⟨2, rfl, ⟨by have := HJ.out; omega⟩, ⟨HSJ.out.trans HS9.out⟩⟩
     ·go_wp2_with fail
      go_ret
      exact ⟨rfl, (HS2.out.trans ((Since.mk HDU.out.low).trans HSJ.out)).b⟩
end Go.Proofs.YtcmllllbmgcnlaaGreat.Rl
end
section
namespace Go.Proofs.YtcmllllbmgcnlaaGreat.Rl
open Go.RowKit Go.Lib Go.Shelf Go.Proofs.YtcmllllbmgcnlaaGreat.G Go.Proofs.YtcmllllbmgcnlaaGreat.Tup Go.Proofs.YtcmllllbmgcnlaaGreatW Go.Proofs.YtcmllllbmgcnlaaGreatW.PrintWords
set_option linter.unusedVariables false
set_option linter.unusedSimpArgs false
theorem relPlays_calls {W : World} (x0 x1 : Int) (A0 : Option Addr) (c0 : Nat) (l0 : List Int) (h0 : Sl W A0 c0 l0) (A1 : Option Addr) (c1 : Nat) (l1 : List Int) (h1 : Sl W A1 c1 l1) (A2 : Option Addr) (n c2 : Nat) (hA : Acts W A2 n) (hn : n ≤ 140737488355328) (W' : World) (e : W' = W) :
  Calls Tryz.prog 10 #[.agg #[.int .i64 x0, .int .i64 x1], .agg #[.slice A0 l0.length c0, .slice A1 l1.length c1], .slice A2 n c2] W' fun e w' => e = .returned (.bool true) ∧ Below W.heap.size W w' := by
 subst e
 exact plays_walk W' x0 x1 A0 c0 l0 h0 A1 c1 l1 h1 A2 n c2 hA hn
end Go.Proofs.YtcmllllbmgcnlaaGreat.Rl
end
