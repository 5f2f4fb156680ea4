/- CodeHeads: the walk. CodeBack: the walk. CodeOwn: the walk. The statement CodeOwn: whatever the input, the law answers true, and the input reads as it did. Conditions: none. -/
import Derived.Test.YtdecgknnbegobaaK6
import Derived.Test.YtdecgknnbegobaaRows
import Derived.WalkKit
import Derived.ProofKit
import Derived.OpenShut
import Derived.ShutString
import Derived.ChangeOld
import Derived.Below
import Derived.SizedLaws
import Derived.Test.YtdecgknnbegobaaWSized
namespace Go.Proofs.Ytdecgknnbegobaa.Cd
open Go.RowKit Go.Lib Go.Maps Go.Proofs.Ytdecgknnbegobaa.D Go.Proofs.YtdecgknnbegobaaW.PrintWords Go.Proofs.YtdecgknnbegobaaW.PrintLast Go.Proofs.YtdecgknnbegobaaW.PrintMore
set_option linter.unusedVariables false
set_option linter.unusedSimpArgs false

theorem Bs.take {w : World} {A : Option Addr} {c : Nat} {l : List Int} (h : Bs w A c l) (k : Nat) (hk : k ≤ l.length) : (l.take k).length = k ∧ Bs w A c (l.take k) := by
  have hl : (l.take k).length = k := by simp; omega
  refine ⟨hl, ⟨?_, by have := h.le; omega, h.lim⟩⟩
  rw [hl]
  obtain ⟨h1, h2, h3⟩ := h.C
  refine ⟨hl, by omega, fun hp => ?_⟩
  obtain ⟨ad, e, hc⟩ := h3 (by omega)
  refine ⟨ad, e, fun j p hj => ?_⟩
  rw [List.getElem?_take] at hj
  split at hj
  · exact hc j p hj
  · cases hj
theorem enc_long (ws : List Int) (rg : Int) (xs : List S39) : 3 ≤ (encL ws rg xs).length := by
  unfold encL
  simp only [List.length_append, List.length_cons, List.length_nil]
  omega
theorem enc_short {ws : List Int} {rg : Int} {xs : List S39} (h : ProgOk ws rg xs) : (encL ws rg xs).length ≤ 400000000 := by
  have h1 := encX_len xs (fun x hx => (h.x x hx).s)
  have h2 := h.n
  have h3 := cnt_len ws.length
  have h4 := cnt_len rg.toNat
  have h5 := cnt_len xs.length
  have h6 := h.m
  unfold encL
  simp only [List.length_append, List.length_cons, List.length_nil]
  omega

set_option maxHeartbeats 8000000 in
set_option maxRecDepth 100000 in
theorem heads_no {W : World} {A0 : Option Addr} {c0 : Nat} {ws : List Int} {rg : Int} {A2 : Option Addr} {c2 : Nat} {xs : List S39} (h : Pg W A0 c0 ws rg A2 c2 xs) (cut : Int) (hno : chkB ws rg xs = false) :
    Calls Try.prog 4 #[.agg #[.slice A0 ws.length c0, .int .i64 rg, .slice A2 xs.length c2], .int .i64 cut] W fun e w' => e = .returned (.bool true) ∧ Since W w' := by
  obtain ⟨V, hV⟩ : ∃ V, V = W.alloc (.cells #[.slice A0 ws.length c0, .int .i64 rg, .slice A2 xs.length c2] 25) := ⟨_, rfl⟩
  have SV := Aside0.mk (show Since W V by rw [hV]; exact (Since.refl W).alloc _)
  have hE := encode_calls V (h.since SV.out)
  unfold EncEnd at hE
  simp only [hno, Bool.false_eq_true, if_false] at hE
  have HE := Aside0.mk hE
  obtain ⟨m, hm⟩ : ∃ m, m = ws.length := ⟨_, rfl⟩
  obtain ⟨n, hn⟩ : ∃ n, n = xs.length := ⟨_, rfl⟩
  rw [← hm, ← hn] at HE hV ⊢
  have HV := Aside0.mk hV
  clear hV hE h hno hm hn
  go_enter Try.func4, Try.ntmps4
  go_wp2_with (first
    | (go_at_call 7; go_loud (rw [← HV.out]; refine HE.out.mono ?_; rintro e w1 ⟨rfl, hs1⟩; have S1 := Aside0.mk (SV.out.trans hs1); clear hs1))
    | (go_at_call 10; go_loud (refine (alive_calls _).mono ?_; rintro e w2 ⟨rfl, hs2⟩; have S2 := Aside0.mk (S1.out.trans hs2); clear hs2)))
  go_ret
  exact ⟨rfl, S2.out⟩

set_option maxHeartbeats 8000000 in
set_option maxRecDepth 100000 in
theorem heads_yes {W : World} {A0 : Option Addr} {c0 : Nat} {ws : List Int} {rg : Int} {A2 : Option Addr} {c2 : Nat} {xs : List S39} (h : Pg W A0 c0 ws rg A2 c2 xs) (cut : Int) (hcut : -9223372036854775808 ≤ cut ∧ cut ≤ 9223372036854775807) (hyes : chkB ws rg xs = true) :
    Calls Try.prog 4 #[.agg #[.slice A0 ws.length c0, .int .i64 rg, .slice A2 xs.length c2], .int .i64 cut] W fun e w' => e = .returned (.bool true) ∧ Since W w' := by
  obtain ⟨V, hV⟩ : ∃ V, V = W.alloc (.cells #[.slice A0 ws.length c0, .int .i64 rg, .slice A2 xs.length c2] 25) := ⟨_, rfl⟩
  have SV := Aside0.mk (show Since W V by rw [hV]; exact (Since.refl W).alloc _)
  have hE := encode_calls V (h.since SV.out)
  unfold EncEnd at hE
  simp only [hyes, if_true] at hE
  have HE := Aside0.mk hE
  have hP := prog_ok hyes h.hx
  have HDC := Aside0.mk (fun k hk => decP_cut hP k hk)
  have H255 := Aside0.mk (enc_255 hP)
  have hl1 := enc_long ws rg xs
  have hl2 := enc_short hP
  obtain ⟨B, hB⟩ : ∃ B, B = encL ws rg xs := ⟨_, rfl⟩
  rw [← hB] at HE HDC H255 hl1 hl2
  obtain ⟨m, hm⟩ : ∃ m, m = ws.length := ⟨_, rfl⟩
  obtain ⟨n, hn⟩ : ∃ n, n = xs.length := ⟨_, rfl⟩
  rw [← hm, ← hn] at HE hV ⊢
  have HV := Aside0.mk hV
  obtain ⟨L, hL⟩ : ∃ L, L = B.length := ⟨_, rfl⟩
  rw [← hL] at hl1 hl2
  have HL := Aside0.mk hL
  have hL0 : ((L : Int) == 0) = false := by simp; omega
  have hL1 : ¬ (L : Int) = 0 := by omega
  obtain ⟨r, hr⟩ : ∃ r, r = cut.tmod (L : Int) := ⟨_, rfl⟩
  have hr1 : -(L : Int) < r ∧ r < (L : Int) := by
    rw [hr]
    constructor
    · have := Int.tmod_lt_of_pos (-cut) (show (0 : Int) < L by omega)
      rw [Int.neg_tmod] at this
      omega
    · exact Int.tmod_lt_of_pos cut (by omega)
  obtain ⟨k, hk⟩ : ∃ k : Nat, (r + (L : Int)).tmod (L : Int) = (k : Int) ∧ k < L := by
    have h1 := Int.tmod_nonneg (L : Int) (show 0 ≤ r + (L : Int) by omega)
    have h2 := Int.tmod_lt_of_pos (r + (L : Int)) (show (0 : Int) < L by omega)
    exact ⟨((r + (L : Int)).tmod (L : Int)).toNat, by omega, by omega⟩
  obtain ⟨hk1, hk2⟩ := hk
  have hwr : wrap64 r = r := by unfold wrap64; omega
  have hwr2 : wrap64 (r + (L : Int)) = r + (L : Int) := by unfold wrap64; omega
  have hwk : wrap64 (k : Int) = (k : Int) := by unfold wrap64; omega
  have hrr := hr.symm
  clear hV hE h hyes hm hn hP hB hL hr
  go_enter Try.func4, Try.ntmps4
  go_wp2_with (first
    | (go_at_call 7; go_loud (rw [← HV.out]; refine HE.out.mono ?_; rintro e w1 ⟨v, rfl, hb⟩; obtain ⟨g, cb, hv, hBs, _, _⟩ := bow_cells hb (by have := HL.out; omega); rw [← HL.out] at hv; subst hv; have HB1 := Aside0.mk hBs; have S1 := Aside0.mk (SV.out.trans hb.since); have hcb : L ≤ cb := (by have := hBs.le; have := HL.out; omega); have hcb2 := hBs.lim; clear hb hBs))
    | (go_at_call 8; go_loud (have hT := HB1.out.take k (by have := HL.out; omega); have hd := decode_calls w1 hT.2 (fun x hx => H255.out x (List.mem_of_mem_take hx)); rw [HDC.out k (by have := HL.out; omega), hT.1] at hd; refine hd.mono ?_; clear hd hT; rintro e w2 ⟨hs2, rfl⟩; have S2 := Aside0.mk (S1.out.trans hs2); clear hs2))
    | (go_at_call 10; go_loud (refine (alive_calls _).mono ?_; rintro e w3 ⟨rfl, hs3⟩; have S3 := Aside0.mk hs3; clear hs3)))
  go_ret
  exact ⟨rfl, (((S2.out.alloc _).alloc _)).trans S3.out⟩

theorem heads_calls {W : World} (A0 : Option Addr) (c0 : Nat) (ws : List Int) (rg : Int) (A2 : Option Addr) (c2 : Nat) (xs : List S39) (h : Pg W A0 c0 ws rg A2 c2 xs) (cut : Int) (hw : (Lit.int .i64 cut).wf = true) (W' : World) (e : W' = W) :
    Calls Try.prog 4 #[.agg #[.slice A0 ws.length c0, .int .i64 rg, .slice A2 xs.length c2], .int .i64 cut] W' fun e w' => e = .returned (.bool true) ∧ Below W.heap.size W w' := by
  subst e
  cases hc : chkB ws rg xs with
  | true => exact (heads_yes h cut (wf64 hw) hc).mono fun e w' hh => ⟨hh.1, hh.2.b⟩
  | false => exact (heads_no h cut hc).mono fun e w' hh => ⟨hh.1, hh.2.b⟩

end Go.Proofs.Ytdecgknnbegobaa.Cd

namespace Go.Proofs.Ytdecgknnbegobaa.Cd
open Go.RowKit Go.Lib Go.Maps Go.Proofs.Ytdecgknnbegobaa.D Go.Proofs.YtdecgknnbegobaaW.PrintWords Go.Proofs.YtdecgknnbegobaaW.PrintLast Go.Proofs.YtdecgknnbegobaaW.PrintMore
set_option linter.unusedVariables false
set_option linter.unusedSimpArgs false

theorem prog_pg {w : World} {A0 : Option Addr} {c0 : Nat} {ws : List Int} {rg : Int} {A2 : Option Addr} {c2 : Nat} {xs : List S39} (h : Pr w A0 c0 ws A2 c2 xs) (hp : ProgOk ws rg xs) : Pg w A0 c0 ws rg A2 c2 xs :=
  ⟨h.h0, h.h2, h.hc2, fun x hx => ⟨(hp.x x hx).a, (hp.x x hx).b, (hp.x x hx).c, by have := (hp.x x hx).s; omega⟩⟩
theorem Pg.pr {w : World} {A0 : Option Addr} {c0 : Nat} {ws : List Int} {rg : Int} {A2 : Option Addr} {c2 : Nat} {xs : List S39} (h : Pg w A0 c0 ws rg A2 c2 xs) : Pr w A0 c0 ws A2 c2 xs := ⟨h.h0, h.h2, h.hc2⟩
theorem Bs.some {w : World} {A : Option Addr} {c : Nat} {l : List Int} (h : Bs w A c l) (hp : 0 < l.length) : ∃ ad, A = some ad := by
  obtain ⟨ad, e, _⟩ := Kd.at_int h.C 0 (by omega) (by omega)
  exact ⟨ad, e⟩

set_option maxHeartbeats 8000000 in
set_option maxRecDepth 100000 in
theorem back_yes_ok {W : World} {A0 : Option Addr} {c0 : Nat} {ws : List Int} {rg : Int} {A2 : Option Addr} {c2 : Nat} {xs : List S39} (h : Pg W A0 c0 ws rg A2 c2 xs) {Ab : Option Addr} {cb : Nat} {Bb : List Int} (hBb : Bs W Ab cb Bb) (h255 : ∀ x ∈ Bb, 0 ≤ x ∧ x ≤ 255) (hchk : chkB ws rg xs = true) (ws' : List Int) (rg' : Int) (xs' : List S39) (qb : Nat) (hdec : decP Bb = .ok (ws', rg', xs') qb) :
    Calls Try.prog 3 #[.agg #[.slice A0 ws.length c0, .int .i64 rg, .slice A2 xs.length c2], .slice Ab Bb.length cb] W fun e w' => e = .returned (.bool true) ∧ Since W w' := by
  obtain ⟨V, hV⟩ : ∃ V, V = W.alloc (.cells #[.slice A0 ws.length c0, .int .i64 rg, .slice A2 xs.length c2] 25) := ⟨_, rfl⟩
  have SV := Aside0.mk (show Since W V by rw [hV]; exact (Since.refl W).alloc _)
  have BV := Aside0.mk (show V.heap[W.heap.size]? = some (.cells #[.slice A0 ws.length c0, .int .i64 rg, .slice A2 xs.length c2] 25 (0, 0)) by rw [hV]; exact heap_alloc_new W _)
  have hE := encode_calls V (h.since SV.out)
  unfold EncEnd at hE
  simp only [hchk, if_true] at hE
  have HE := Aside0.mk hE
  have HPG := Aside0.mk h
  have hP := prog_ok hchk h.hx
  have HDP := Aside0.mk (decP_enc hP hchk)
  have H255 := Aside0.mk (enc_255 hP)
  have hl1 := enc_long ws rg xs
  obtain ⟨B, hB⟩ : ∃ B, B = encL ws rg xs := ⟨_, rfl⟩
  rw [← hB] at HE HDP H255 hl1
  have HLB := Aside0.mk hl1
  have HD := Aside0.mk (fun w (hs : Since W w) => decode_calls w (hBb.since hs) h255)
  rw [hdec] at HD
  obtain ⟨k1, k2, k3⟩ := decP_read h255 hdec
  have hl2 := enc_long ws' rg' xs'
  rw [← k3] at hl2
  obtain ⟨ab, hab⟩ := hBb.some (by omega)
  subst hab
  have HK := Aside0.mk (And.intro k1 k2)
  have HE2 := Aside0.mk (fun (w : World) (A0 : Option Addr) (c0 : Nat) (A2 : Option Addr) (c2 : Nat) (h : Pr w A0 c0 ws' A2 c2 xs') => show Calls Try.prog 7 #[.agg #[.slice A0 ws'.length c0, .int .i64 rg', .slice A2 xs'.length c2]] w (fun e w' => ∃ v, e = .returned (.tuple #[v, .int .i64 0]) ∧ Bow w w' v Bb) by
    have hE := encode_calls w (prog_pg h k1)
    unfold EncEnd at hE
    simp only [k2, if_true] at hE
    rw [← k3] at hE
    exact hE)
  have HB2 := Aside0.mk hl2
  clear k1 k2 k3 hl2
  have HBB := Aside0.mk hBb
  obtain ⟨m, hm⟩ : ∃ m, m = ws.length := ⟨_, rfl⟩
  obtain ⟨n, hn⟩ : ∃ n, n = xs.length := ⟨_, rfl⟩
  have HMN := Aside0.mk (And.intro hm hn)
  obtain ⟨Lb, hLb⟩ : ∃ L, L = Bb.length := ⟨_, rfl⟩
  have HLb := Aside0.mk hLb
  rw [← hm, ← hn] at HE hV BV ⊢
  rw [← hLb] at HD ⊢
  have HV := Aside0.mk hV
  clear hV hE h hchk hm hn hBb h255 hdec hLb hP hB hl1
  go_enter Try.func3, Try.ntmps3
  go_wp2_with (first
    | (go_at_call 7; rw [← HV.out]; refine HE.out.mono ?_; rintro e w1 ⟨v, rfl, hb⟩; obtain ⟨g, cx, hv, hBs, _, _⟩ := bow_cells hb (by have := HLB.out; omega); subst hv; have HB1 := Aside0.mk hBs; have S1 := Aside0.mk hb.since; clear hb hBs)
    | (go_at_call 8; (have hd := decode_calls w1 HB1.out H255.out); rw [HDP.out] at hd; (with_reducible refine hd.mono ?_); clear hd; rintro e w2 ⟨hs2, vW, vI, rfl, ho1, ho2⟩; obtain ⟨B0, d0, hv0, hS0⟩ := own3_Sl ho1; obtain ⟨B2, d2, hv2, hl2, hC2⟩ := own39_C ho2; subst hv0 hv2; have HR2 := Aside0.mk (Pr.mk hS0 hC2 hl2); have S2 := Aside0.mk (S1.out.trans hs2); have hbx := Cd.blk (S1.out.trans hs2).b BV.out; have x0 := (cell_of_heap hbx 0).trans (rfl : _ = some (Value.slice A0 m c0)); have x1 := (cell_of_heap hbx 1).trans (rfl : _ = some (Value.int .i64 rg)); have x2 := (cell_of_heap hbx 2).trans (rfl : _ = some (Value.slice A2 n c2)); have xlt := (Array.getElem?_eq_some_iff.1 hbx).1; rw [← HMN.out.1, ← HMN.out.2]; clear hs2 ho1 ho2 hS0 hC2 hl2 hbx)
    | (go_at_call 9; go_loud (have hq := refSame_calls (rg := rg) (rg' := rg) ((w2.alloc (.cells #[.slice B0 m d0, .int .i64 rg, .slice B2 n d2] 25)).alloc (.cells #[.int .i64 0, .int .i64 0] 31)) ((HPG.out.pr.since SV.out).since (S2.out.trans (((Since.refl w2).alloc _).alloc _))) (HR2.out.since (((Since.refl w2).alloc _).alloc _)); rw [sameB_self, ← HMN.out.1, ← HMN.out.2] at hq; refine hq.mono ?_; clear hq x0 x1 x2 xlt); rintro e w3 ⟨rfl, hs3⟩; have S3 := Aside0.mk ((SV.out.trans S2.out).trans ((((Since.refl w2).alloc _).alloc _).trans hs3)); clear hs3)
    | (go_at_call 8; (with_reducible refine (HD.out _ S3.out).mono ?_); rintro e w4 ⟨hs4, vW, vI, rfl, ho1, ho2⟩; obtain ⟨E0, e0, hv0, hS0⟩ := own3_Sl ho1; obtain ⟨E2, e2, hv2, hl2, hC2⟩ := own39_C ho2; subst hv0 hv2; have HR4 := Aside0.mk ((Pr.mk hS0 hC2 hl2).since ((((Since.refl w4).alloc (.cells #[.slice E0 ws'.length e0, .int .i64 rg', .slice E2 xs'.length e2] 25)).alloc (.cells #[.int .i64 0, .int .i64 0] 31)))); have S4 := Aside0.mk ((S3.out.trans hs4).trans ((((Since.refl w4).alloc (.cells #[.slice E0 ws'.length e0, .int .i64 rg', .slice E2 xs'.length e2] 25)).alloc (.cells #[.int .i64 0, .int .i64 0] 31)))); clear hs4 ho1 ho2 hS0 hC2 hl2)
    | (go_at_call 7; go_loud (refine (HE2.out _ E0 e0 E2 e2 HR4.out).mono ?_; rintro e w5 ⟨v, rfl, hb⟩; obtain ⟨g5, cy, hv, hBs, _, _⟩ := bow_cells hb (by have := HB2.out; omega); rw [← HLb.out] at hv; subst hv; have hcy := bs_conv hBs; have S5 := Aside0.mk (S4.out.trans hb.since); have hcb := bs_conv (HBB.out.since S5.out); rw [← HLb.out] at hcy hcb; clear hb hBs))
    | (go_at_call 10; go_loud (refine (alive_calls _).mono ?_; rintro e w9 ⟨rfl, hs9⟩; have S9 := Aside0.mk (S5.out.trans hs9); clear hs9)))
  go_ret
  exact ⟨rfl, S9.out⟩

set_option maxHeartbeats 8000000 in
set_option maxRecDepth 100000 in
theorem back_yes_bad {W : World} {A0 : Option Addr} {c0 : Nat} {ws : List Int} {rg : Int} {A2 : Option Addr} {c2 : Nat} {xs : List S39} (h : Pg W A0 c0 ws rg A2 c2 xs) {Ab : Option Addr} {cb : Nat} {Bb : List Int} (hBb : Bs W Ab cb Bb) (h255 : ∀ x ∈ Bb, 0 ≤ x ∧ x ≤ 255) (hchk : chkB ws rg xs = true) (qb : Nat) (hdec : decP Bb = .bad qb) :
    Calls Try.prog 3 #[.agg #[.slice A0 ws.length c0, .int .i64 rg, .slice A2 xs.length c2], .slice Ab Bb.length cb] W fun e w' => e = .returned (.bool true) ∧ Since W w' := by
  obtain ⟨V, hV⟩ : ∃ V, V = W.alloc (.cells #[.slice A0 ws.length c0, .int .i64 rg, .slice A2 xs.length c2] 25) := ⟨_, rfl⟩
  have SV := Aside0.mk (show Since W V by rw [hV]; exact (Since.refl W).alloc _)
  have BV := Aside0.mk (show V.heap[W.heap.size]? = some (.cells #[.slice A0 ws.length c0, .int .i64 rg, .slice A2 xs.length c2] 25 (0, 0)) by rw [hV]; exact heap_alloc_new W _)
  have hE := encode_calls V (h.since SV.out)
  unfold EncEnd at hE
  simp only [hchk, if_true] at hE
  have HE := Aside0.mk hE
  have HPG := Aside0.mk h
  have hP := prog_ok hchk h.hx
  have HDP := Aside0.mk (decP_enc hP hchk)
  have H255 := Aside0.mk (enc_255 hP)
  have hl1 := enc_long ws rg xs
  obtain ⟨B, hB⟩ : ∃ B, B = encL ws rg xs := ⟨_, rfl⟩
  rw [← hB] at HE HDP H255 hl1
  have HLB := Aside0.mk hl1
  have HD := Aside0.mk (fun w (hs : Since W w) => decode_calls w (hBb.since hs) h255)
  rw [hdec] at HD
  have HBB := Aside0.mk hBb
  obtain ⟨m, hm⟩ : ∃ m, m = ws.length := ⟨_, rfl⟩
  obtain ⟨n, hn⟩ : ∃ n, n = xs.length := ⟨_, rfl⟩
  have HMN := Aside0.mk (And.intro hm hn)
  obtain ⟨Lb, hLb⟩ : ∃ L, L = Bb.length := ⟨_, rfl⟩
  have HLb := Aside0.mk hLb
  rw [← hm, ← hn] at HE hV BV ⊢
  rw [← hLb] at HD ⊢
  have HV := Aside0.mk hV
  clear hV hE h hchk hm hn hBb h255 hdec hLb hP hB hl1
  go_enter Try.func3, Try.ntmps3
  go_wp2_with (first
    | (go_at_call 7; rw [← HV.out]; refine HE.out.mono ?_; rintro e w1 ⟨v, rfl, hb⟩; obtain ⟨g, cx, hv, hBs, _, _⟩ := bow_cells hb (by have := HLB.out; omega); subst hv; have HB1 := Aside0.mk hBs; have S1 := Aside0.mk hb.since; clear hb hBs)
    | (go_at_call 8; (have hd := decode_calls w1 HB1.out H255.out); rw [HDP.out] at hd; (with_reducible refine hd.mono ?_); clear hd; rintro e w2 ⟨hs2, vW, vI, rfl, ho1, ho2⟩; obtain ⟨B0, d0, hv0, hS0⟩ := own3_Sl ho1; obtain ⟨B2, d2, hv2, hl2, hC2⟩ := own39_C ho2; subst hv0 hv2; have HR2 := Aside0.mk (Pr.mk hS0 hC2 hl2); have S2 := Aside0.mk (S1.out.trans hs2); have hbx := Cd.blk (S1.out.trans hs2).b BV.out; have x0 := (cell_of_heap hbx 0).trans (rfl : _ = some (Value.slice A0 m c0)); have x1 := (cell_of_heap hbx 1).trans (rfl : _ = some (Value.int .i64 rg)); have x2 := (cell_of_heap hbx 2).trans (rfl : _ = some (Value.slice A2 n c2)); have xlt := (Array.getElem?_eq_some_iff.1 hbx).1; rw [← HMN.out.1, ← HMN.out.2]; clear hs2 ho1 ho2 hS0 hC2 hl2 hbx)
    | (go_at_call 9; go_loud (have hq := refSame_calls (rg := rg) (rg' := rg) ((w2.alloc (.cells #[.slice B0 m d0, .int .i64 rg, .slice B2 n d2] 25)).alloc (.cells #[.int .i64 0, .int .i64 0] 31)) ((HPG.out.pr.since SV.out).since (S2.out.trans (((Since.refl w2).alloc _).alloc _))) (HR2.out.since (((Since.refl w2).alloc _).alloc _)); rw [sameB_self, ← HMN.out.1, ← HMN.out.2] at hq; refine hq.mono ?_; clear hq x0 x1 x2 xlt); rintro e w3 ⟨rfl, hs3⟩; have S3 := Aside0.mk ((SV.out.trans S2.out).trans ((((Since.refl w2).alloc _).alloc _).trans hs3)); clear hs3)
    | (go_at_call 8; (with_reducible refine (HD.out _ S3.out).mono ?_); rintro e w4 ⟨hs4, rfl⟩; have S4 := Aside0.mk ((S3.out.trans hs4).trans (((Since.refl w4).alloc (.cells #[.slice none 0 0, .int .i64 0, .slice none 0 0] 25)).alloc (.cells #[.int .i64 21, .int .i64 (qb : Int)] 31))); clear hs4)
    | (go_at_call 10; go_loud (refine (alive_calls _).mono ?_; rintro e w9 ⟨rfl, hs9⟩; have S9 := Aside0.mk (S4.out.trans hs9); clear hs9)))
  go_ret
  exact ⟨rfl, S9.out⟩

set_option maxHeartbeats 8000000 in
set_option maxRecDepth 100000 in
theorem back_no_ok {W : World} {A0 : Option Addr} {c0 : Nat} {ws : List Int} {rg : Int} {A2 : Option Addr} {c2 : Nat} {xs : List S39} (h : Pg W A0 c0 ws rg A2 c2 xs) {Ab : Option Addr} {cb : Nat} {Bb : List Int} (hBb : Bs W Ab cb Bb) (h255 : ∀ x ∈ Bb, 0 ≤ x ∧ x ≤ 255) (hchk : chkB ws rg xs = false) (ws' : List Int) (rg' : Int) (xs' : List S39) (qb : Nat) (hdec : decP Bb = .ok (ws', rg', xs') qb) :
    Calls Try.prog 3 #[.agg #[.slice A0 ws.length c0, .int .i64 rg, .slice A2 xs.length c2], .slice Ab Bb.length cb] W fun e w' => e = .returned (.bool true) ∧ Since W w' := by
  obtain ⟨V, hV⟩ : ∃ V, V = W.alloc (.cells #[.slice A0 ws.length c0, .int .i64 rg, .slice A2 xs.length c2] 25) := ⟨_, rfl⟩
  have SV := Aside0.mk (show Since W V by rw [hV]; exact (Since.refl W).alloc _)
  have BV := Aside0.mk (show V.heap[W.heap.size]? = some (.cells #[.slice A0 ws.length c0, .int .i64 rg, .slice A2 xs.length c2] 25 (0, 0)) by rw [hV]; exact heap_alloc_new W _)
  have hE := encode_calls V (h.since SV.out)
  unfold EncEnd at hE
  simp only [hchk, Bool.false_eq_true, if_false] at hE
  have HE := Aside0.mk hE
  have HPG := Aside0.mk h
  have HD := Aside0.mk (fun w (hs : Since W w) => decode_calls w (hBb.since hs) h255)
  rw [hdec] at HD
  obtain ⟨k1, k2, k3⟩ := decP_read h255 hdec
  have hl2 := enc_long ws' rg' xs'
  rw [← k3] at hl2
  obtain ⟨ab, hab⟩ := hBb.some (by omega)
  subst hab
  have HK := Aside0.mk (And.intro k1 k2)
  have HE2 := Aside0.mk (fun (w : World) (A0 : Option Addr) (c0 : Nat) (A2 : Option Addr) (c2 : Nat) (h : Pr w A0 c0 ws' A2 c2 xs') => show Calls Try.prog 7 #[.agg #[.slice A0 ws'.length c0, .int .i64 rg', .slice A2 xs'.length c2]] w (fun e w' => ∃ v, e = .returned (.tuple #[v, .int .i64 0]) ∧ Bow w w' v Bb) by
    have hE := encode_calls w (prog_pg h k1)
    unfold EncEnd at hE
    simp only [k2, if_true] at hE
    rw [← k3] at hE
    exact hE)
  have HB2 := Aside0.mk hl2
  clear k1 k2 k3 hl2
  have HBB := Aside0.mk hBb
  obtain ⟨m, hm⟩ : ∃ m, m = ws.length := ⟨_, rfl⟩
  obtain ⟨n, hn⟩ : ∃ n, n = xs.length := ⟨_, rfl⟩
  have HMN := Aside0.mk (And.intro hm hn)
  obtain ⟨Lb, hLb⟩ : ∃ L, L = Bb.length := ⟨_, rfl⟩
  have HLb := Aside0.mk hLb
  rw [← hm, ← hn] at HE hV BV ⊢
  rw [← hLb] at HD ⊢
  have HV := Aside0.mk hV
  clear hV hE h hchk hm hn hBb h255 hdec hLb
  go_enter Try.func3, Try.ntmps3
  go_wp2_with (first
    | (go_at_call 7; rw [← HV.out]; refine HE.out.mono ?_; rintro e w3 ⟨rfl, hs3⟩; have S3 := Aside0.mk (SV.out.trans hs3); clear hs3)
    | (go_at_call 8; (with_reducible refine (HD.out _ S3.out).mono ?_); rintro e w4 ⟨hs4, vW, vI, rfl, ho1, ho2⟩; obtain ⟨E0, e0, hv0, hS0⟩ := own3_Sl ho1; obtain ⟨E2, e2, hv2, hl2, hC2⟩ := own39_C ho2; subst hv0 hv2; have HR4 := Aside0.mk ((Pr.mk hS0 hC2 hl2).since ((((Since.refl w4).alloc (.cells #[.slice E0 ws'.length e0, .int .i64 rg', .slice E2 xs'.length e2] 25)).alloc (.cells #[.int .i64 0, .int .i64 0] 31)))); have S4 := Aside0.mk ((S3.out.trans hs4).trans ((((Since.refl w4).alloc (.cells #[.slice E0 ws'.length e0, .int .i64 rg', .slice E2 xs'.length e2] 25)).alloc (.cells #[.int .i64 0, .int .i64 0] 31)))); clear hs4 ho1 ho2 hS0 hC2 hl2)
    | (go_at_call 7; go_loud (refine (HE2.out _ E0 e0 E2 e2 HR4.out).mono ?_; rintro e w5 ⟨v, rfl, hb⟩; obtain ⟨g5, cy, hv, hBs, _, _⟩ := bow_cells hb (by have := HB2.out; omega); rw [← HLb.out] at hv; subst hv; have hcy := bs_conv hBs; have S5 := Aside0.mk (S4.out.trans hb.since); have hcb := bs_conv (HBB.out.since S5.out); rw [← HLb.out] at hcy hcb; clear hb hBs))
    | (go_at_call 10; go_loud (refine (alive_calls _).mono ?_; rintro e w9 ⟨rfl, hs9⟩; have S9 := Aside0.mk (S5.out.trans hs9); clear hs9)))
  go_ret
  exact ⟨rfl, S9.out⟩

set_option maxHeartbeats 8000000 in
set_option maxRecDepth 100000 in
theorem back_no_bad {W : World} {A0 : Option Addr} {c0 : Nat} {ws : List Int} {rg : Int} {A2 : Option Addr} {c2 : Nat} {xs : List S39} (h : Pg W A0 c0 ws rg A2 c2 xs) {Ab : Option Addr} {cb : Nat} {Bb : List Int} (hBb : Bs W Ab cb Bb) (h255 : ∀ x ∈ Bb, 0 ≤ x ∧ x ≤ 255) (hchk : chkB ws rg xs = false) (qb : Nat) (hdec : decP Bb = .bad qb) :
    Calls Try.prog 3 #[.agg #[.slice A0 ws.length c0, .int .i64 rg, .slice A2 xs.length c2], .slice Ab Bb.length cb] W fun e w' => e = .returned (.bool true) ∧ Since W w' := by
  obtain ⟨V, hV⟩ : ∃ V, V = W.alloc (.cells #[.slice A0 ws.length c0, .int .i64 rg, .slice A2 xs.length c2] 25) := ⟨_, rfl⟩
  have SV := Aside0.mk (show Since W V by rw [hV]; exact (Since.refl W).alloc _)
  have BV := Aside0.mk (show V.heap[W.heap.size]? = some (.cells #[.slice A0 ws.length c0, .int .i64 rg, .slice A2 xs.length c2] 25 (0, 0)) by rw [hV]; exact heap_alloc_new W _)
  have hE := encode_calls V (h.since SV.out)
  unfold EncEnd at hE
  simp only [hchk, Bool.false_eq_true, if_false] at hE
  have HE := Aside0.mk hE
  have HPG := Aside0.mk h
  have HD := Aside0.mk (fun w (hs : Since W w) => decode_calls w (hBb.since hs) h255)
  rw [hdec] at HD
  have HBB := Aside0.mk hBb
  obtain ⟨m, hm⟩ : ∃ m, m = ws.length := ⟨_, rfl⟩
  obtain ⟨n, hn⟩ : ∃ n, n = xs.length := ⟨_, rfl⟩
  have HMN := Aside0.mk (And.intro hm hn)
  obtain ⟨Lb, hLb⟩ : ∃ L, L = Bb.length := ⟨_, rfl⟩
  have HLb := Aside0.mk hLb
  rw [← hm, ← hn] at HE hV BV ⊢
  rw [← hLb] at HD ⊢
  have HV := Aside0.mk hV
  clear hV hE h hchk hm hn hBb h255 hdec hLb
  go_enter Try.func3, Try.ntmps3
  go_wp2_with (first
    | (go_at_call 7; rw [← HV.out]; refine HE.out.mono ?_; rintro e w3 ⟨rfl, hs3⟩; have S3 := Aside0.mk (SV.out.trans hs3); clear hs3)
    | (go_at_call 8; (with_reducible refine (HD.out _ S3.out).mono ?_); rintro e w4 ⟨hs4, rfl⟩; have S4 := Aside0.mk ((S3.out.trans hs4).trans (((Since.refl w4).alloc (.cells #[.slice none 0 0, .int .i64 0, .slice none 0 0] 25)).alloc (.cells #[.int .i64 21, .int .i64 (qb : Int)] 31))); clear hs4)
    | (go_at_call 10; go_loud (refine (alive_calls _).mono ?_; rintro e w9 ⟨rfl, hs9⟩; have S9 := Aside0.mk (S4.out.trans hs9); clear hs9)))
  go_ret
  exact ⟨rfl, S9.out⟩

theorem back_calls {W : World} (A0 : Option Addr) (c0 : Nat) (ws : List Int) (rg : Int) (A2 : Option Addr) (c2 : Nat) (xs : List S39) (h : Pg W A0 c0 ws rg A2 c2 xs) (Ab : Option Addr) (cb : Nat) (Bb : List Int) (hB : Bs W Ab cb Bb) (h255 : ∀ x ∈ Bb, 0 ≤ x ∧ x ≤ 255) (W' : World) (e : W' = W) :
    Calls Try.prog 3 #[.agg #[.slice A0 ws.length c0, .int .i64 rg, .slice A2 xs.length c2], .slice Ab Bb.length cb] W' fun e w' => e = .returned (.bool true) ∧ Below W.heap.size W w' := by
  subst e
  cases hc : chkB ws rg xs with
  | true =>
    cases hd : decP Bb with
    | ok a q => obtain ⟨ws', rg', xs'⟩ := a; exact (back_yes_ok h hB h255 hc ws' rg' xs' q hd).mono fun e w' hh => ⟨hh.1, hh.2.b⟩
    | bad q => exact (back_yes_bad h hB h255 hc q hd).mono fun e w' hh => ⟨hh.1, hh.2.b⟩
  | false =>
    cases hd : decP Bb with
    | ok a q => obtain ⟨ws', rg', xs'⟩ := a; exact (back_no_ok h hB h255 hc ws' rg' xs' q hd).mono fun e w' hh => ⟨hh.1, hh.2.b⟩
    | bad q => exact (back_no_bad h hB h255 hc q hd).mono fun e w' hh => ⟨hh.1, hh.2.b⟩

end Go.Proofs.Ytdecgknnbegobaa.Cd

namespace Go.Proofs.Ytdecgknnbegobaa.Cd
open Go.RowKit Go.Lib Go.Maps Go.Proofs.Ytdecgknnbegobaa.D Go.Proofs.YtdecgknnbegobaaW.PrintWords Go.Proofs.YtdecgknnbegobaaW.PrintLast Go.Proofs.YtdecgknnbegobaaW.PrintMore
set_option linter.unusedVariables false
set_option linter.unusedSimpArgs false

/-- A row of the call's own that holds something. -/
theorem own_some {w : World} {base n size : Nat} {e : TypeId} {v : Value} {cs : List Value} (h : w.ownsRow base e size v n cs) (hn : 0 < n) : ∃ g cap cur, v = .slice (some ⟨g, 0, none⟩) n cap ∧ base ≤ g ∧ w.heap[g]? = some (.cells cur e (0, 0)) ∧ n ≤ cap ∧ cap ≤ maxLen ∧ cur.size = cap * size := by
  rcases h.2 with ⟨_, h1⟩ | ⟨g, cap, cur, h1, h2, h3, h4, h5, h6, _⟩
  · omega
  · exact ⟨g, cap, cur, h1, h2, h3, h4, h5, h6⟩
theorem cell_in {w : World} {g : Nat} {cur : Array Value} {t : TypeId} (h : w.heap[g]? = some (.cells cur t (0, 0))) {j : Nat} (hj : j < cur.size) : ∃ v, w.cell? ⟨g, j, none⟩ = some v := ⟨cur[j], (cell_of_heap h j).trans (Array.getElem?_eq_getElem hj)⟩
theorem set_in {w : World} {g : Nat} {cur : Array Value} {t : TypeId} (h : w.heap[g]? = some (.cells cur t (0, 0))) (j : Nat) (v : Value) : ∃ cur', (w.setCell ⟨g, j, none⟩ v).heap[g]? = some (.cells cur' t (0, 0)) ∧ cur'.size = cur.size := ⟨_, Go.Joins.block_setCell (i := j) h v, by simp⟩

theorem bow_size {W w : World} {l : List Int} {g c n : Nat} (h : Bow W w (.slice (some ⟨g, 0, none⟩) n c) l) (hp : 0 < l.length) : ∃ cur, w.heap[g]? = some (.cells cur 5 (0, 0)) ∧ l.length ≤ cur.size := by
  obtain ⟨g', cap, cur, e, _, h2, h3, _, h4⟩ := own_some h.own hp
  injection e with e1 _ _
  injection e1 with e1
  injection e1 with e1 _ _
  subst e1
  exact ⟨cur, h2, by omega⟩
theorem own_maybe {w : World} {base m e : Nat} {E : Option Addr} {cs : List Value} (h : w.ownsRow base 3 1 (.slice E m e) m cs) : ∃ g, base ≤ g ∧ (0 < m → E = some ⟨g, 0, none⟩ ∧ ∃ cur, w.heap[g]? = some (.cells cur 3 (0, 0)) ∧ m ≤ cur.size) := by
  rcases Nat.eq_zero_or_pos m with h0 | h0
  · exact ⟨base, Nat.le_refl _, fun h1 => absurd h1 (by omega)⟩
  · obtain ⟨g, cap, cur, e, h1, h2, h3, _, h4⟩ := own_some h h0
    injection e with e1 _ _
    exact ⟨g, h1, fun _ => ⟨e1, cur, h2, by omega⟩⟩
theorem kept_put (w : World) (br j : Nat) (v : Value) {S : Nat → Prop} (h : S br) : Kept w (w.setCell ⟨br, j, none⟩ v) S := by
  refine ⟨by simp, fun i hi hn => ?_⟩
  exact Below.heap_setCell _ _ _ _ (fun e => hn (e ▸ h))
theorem kept_refl (w : World) (S : Nat → Prop) : Kept w w S := ⟨Nat.le_refl _, fun _ _ _ => rfl⟩
theorem heap_lt {w : World} {b : Nat} {o : Obj} (h : w.heap[b]? = some o) : b < w.heap.size := (Array.getElem?_eq_some_iff.1 h).1

set_option maxHeartbeats 8000000 in
set_option maxRecDepth 100000 in
theorem own_no {W : World} {A0 : Option Addr} {c0 : Nat} {ws : List Int} {rg : Int} {A2 : Option Addr} {c2 : Nat} {xs : List S39} (h : Pg W A0 c0 ws rg A2 c2 xs) (hno : chkB ws rg xs = false) :
    Calls Try.prog 5 #[.agg #[.slice A0 ws.length c0, .int .i64 rg, .slice A2 xs.length c2]] W fun e w' => e = .returned (.bool true) ∧ Since W w' := by
  obtain ⟨V, hV⟩ : ∃ V, V = W.alloc (.cells #[.slice A0 ws.length c0, .int .i64 rg, .slice A2 xs.length c2] 25) := ⟨_, rfl⟩
  have SV := Aside0.mk (show Since W V by rw [hV]; exact (Since.refl W).alloc _)
  have hE := encode_calls V (h.since SV.out)
  unfold EncEnd at hE
  simp only [hno, Bool.false_eq_true, if_false] at hE
  have HE := Aside0.mk hE
  obtain ⟨m, hm⟩ : ∃ m, m = ws.length := ⟨_, rfl⟩
  obtain ⟨n, hn⟩ : ∃ n, n = xs.length := ⟨_, rfl⟩
  rw [← hm, ← hn] at HE hV ⊢
  have HV := Aside0.mk hV
  clear hV hE h hno hm hn
  go_enter Try.func5, Try.ntmps5
  go_wp2_with (first
    | (go_at_call 7; go_loud (rw [← HV.out]; refine HE.out.mono ?_; rintro e w1 ⟨rfl, hs1⟩; have S1 := Aside0.mk (SV.out.trans hs1); clear hs1))
    | (go_at_call 10; go_loud (refine (alive_calls _).mono ?_; rintro e w2 ⟨rfl, hs2⟩; have S2 := Aside0.mk (S1.out.trans hs2); clear hs2)))
  go_ret
  exact ⟨rfl, S2.out⟩

set_option maxHeartbeats 16000000 in
set_option maxRecDepth 100000 in
theorem own_yes {W : World} {A0 : Option Addr} {c0 : Nat} {ws : List Int} {rg : Int} {A2 : Option Addr} {c2 : Nat} {xs : List S39} (h : Pg W A0 c0 ws rg A2 c2 xs) (hchk : chkB ws rg xs = true) :
    Calls Try.prog 5 #[.agg #[.slice A0 ws.length c0, .int .i64 rg, .slice A2 xs.length c2]] W fun e w' => e = .returned (.bool true) ∧ Since W w' := by
  obtain ⟨V, hV⟩ : ∃ V, V = W.alloc (.cells #[.slice A0 ws.length c0, .int .i64 rg, .slice A2 xs.length c2] 25) := ⟨_, rfl⟩
  have SV := Aside0.mk (show Since W V by rw [hV]; exact (Since.refl W).alloc _)
  have BV := Aside0.mk (show V.heap[W.heap.size]? = some (.cells #[.slice A0 ws.length c0, .int .i64 rg, .slice A2 xs.length c2] 25 (0, 0)) by rw [hV]; exact heap_alloc_new W _)
  have hE := fun w (k : Since W w) => encode_calls w (h.since k)
  unfold EncEnd at hE
  simp only [hchk, if_true] at hE
  have HE := Aside0.mk hE
  have HPG := Aside0.mk h
  have hP := prog_ok hchk h.hx
  have HDP := Aside0.mk (decP_enc hP hchk)
  have H255 := Aside0.mk (enc_255 hP)
  have hl1 := enc_long ws rg xs
  have hl2 := enc_short hP
  have hx0 : 0 < xs.length ∧ xs.length ≤ 4096 := by
    have := hP.n
    unfold chkB at hchk
    split at hchk
    · cases hchk
    · omega
  have hw0 := hP.m
  obtain ⟨B, hB⟩ : ∃ B, B = encL ws rg xs := ⟨_, rfl⟩
  rw [← hB] at HE HDP H255 hl1 hl2
  obtain ⟨L, hL⟩ : ∃ L, L = B.length := ⟨_, rfl⟩
  rw [← hL] at hl1 hl2
  have HL := Aside0.mk hL
  obtain ⟨sB, hsB⟩ : ∃ s, s = strOfNums B := ⟨_, rfl⟩
  have HSB := Aside0.mk hsB
  obtain ⟨m, hm⟩ : ∃ m, m = ws.length := ⟨_, rfl⟩
  obtain ⟨n, hn⟩ : ∃ n, n = xs.length := ⟨_, rfl⟩
  have HMN := Aside0.mk (And.intro hm hn)
  rw [← hm] at hw0
  rw [← hn] at hx0
  rw [← hm, ← hn] at HE hV BV ⊢
  have HV := Aside0.mk hV
  obtain ⟨hx0, hx1⟩ := hx0
  clear hV hE h hchk hm hn hP hB hL hsB
  go_enter Try.func5, Try.ntmps5
  go_wp2_with (first
    | (go_at_call 7; go_loud (rw [← HV.out]; refine (HE.out V SV.out).mono ?_; rintro e w1 ⟨v, rfl, hb⟩; obtain ⟨g, cx, hv, hBs, hg, cur, hcur⟩ := bow_cells hb (by have := HL.out; omega); rw [← HL.out] at hv; subst hv; have HCS := Aside0.mk (bow_size hb (by have := HL.out; omega)); have HB1 := Aside0.mk hBs; have HG1 := Aside0.mk (And.intro hg hcur); have hcv := bs_conv hBs; rw [← HL.out, ← HSB.out] at hcv; have SB1 := Aside0.mk hb.since; have S1 := Aside0.mk (SV.out.trans hb.since); clear hb hBs hg hcur))
    | (go_at_call 8; go_loud (have hd := decode_calls w1 HB1.out H255.out; rw [HDP.out, ← HL.out] at hd; refine hd.mono ?_; clear hd hcv; rintro e w2 ⟨hs2, vW, vI, rfl, ho1, ho2⟩; rw [← HMN.out.2] at ho2; rw [← HMN.out.1] at ho1; obtain ⟨gI, eI, cI, hvI, hgI, hbI, hnI, hmI, hsI⟩ := own_some ho2 hx0; subst hvI; obtain ⟨E0, e0, hv0⟩ := own_slice ho1; subst hv0; have HI := Aside0.mk (And.intro hgI (And.intro hbI (And.intro hnI hsI))); have HW := Aside0.mk (own_maybe ho1); have HS12 := Aside0.mk hs2; have S2 := Aside0.mk (S1.out.trans hs2); have HG2 := Aside0.mk (Cd.blk hs2.b HG1.out.2); have HSZ := Aside0.mk hs2.b.size; have HBX := Aside0.mk (Cd.blk (SB1.out.trans hs2).b BV.out); clear hs2 ho1 ho2 hgI hbI)))
  obtain ⟨w3, hw3⟩ : ∃ w, w = (w2.alloc (.cells #[.slice E0 m e0, .int .i64 rg, .slice (some ⟨gI, 0, none⟩) n eI] 25)).alloc (.cells #[.int .i64 0, .int .i64 0] 31) := ⟨_, rfl⟩
  rw [← hw3]
  have s23 : Since w2 w3 := by rw [hw3]; exact ((Since.refl w2).alloc _).alloc _
  have S3 := Aside0.mk (HS12.out.trans s23)
  have BD := Aside0.mk (show w3.heap[w2.heap.size]? = some (.cells #[.slice E0 m e0, .int .i64 rg, .slice (some ⟨gI, 0, none⟩) n eI] 25 (0, 0)) by rw [hw3]; exact Cd.blk ((Since.refl _).alloc _).b (heap_alloc_new w2 _))
  have BI := Aside0.mk (Cd.blk s23.b HI.out.2.1)
  obtain ⟨gW, hgW, hgW2⟩ := HW.out
  have BW := Aside0.mk (show 0 < m → E0 = some ⟨gW, 0, none⟩ ∧ gW ≠ gI ∧ gW < w2.heap.size ∧ ∃ cur, w3.heap[gW]? = some (.cells cur 3 (0, 0)) ∧ m ≤ cur.size from fun h0 => by
    obtain ⟨h1, cW, h2, h3⟩ := hgW2 h0
    refine ⟨h1, fun hx => ?_, heap_lt h2, cW, Cd.blk s23.b h2, h3⟩
    have h4 := HI.out.2.1
    rw [← hx, h2] at h4
    simp at h4)
  have LT := Aside0.mk (show W.heap.size < V.heap.size ∧ V.heap.size ≤ g ∧ g < w1.heap.size ∧ w1.heap.size ≤ gI ∧ gI < w2.heap.size ∧ w1.heap.size ≤ gW ∧ w2.heap.size < w3.heap.size from ⟨heap_lt BV.out, HG1.out.1, heap_lt HG1.out.2, HI.out.1, heap_lt HI.out.2.1, hgW, heap_lt BD.out⟩)
  clear hw3 s23 hgW hgW2
  go_loopg [31] n (fun gk v31 wr => ∃ i : Nat, v31 = .int .i64 (i : Int) ∧ Aside0 (i + gk = n) ∧ Aside0 (Since w1 wr) ∧ Aside0 (Kept w3 wr (fun k => k = gI)) ∧ Aside0 (∃ cur, wr.heap[gI]? = some (.cells cur 39 (0, 0)) ∧ cur.size = eI * 5))
  case atStart => exact ⟨0, rfl, ⟨by omega⟩, S3, ⟨kept_refl _ _⟩, ⟨cI, BI.out, hsI⟩⟩
  case round =>
    obtain ⟨i, rfl, HI', HS, HK, HC⟩ := hrel
    have BD' := Aside0.mk (Kept.block HK.out BD.out (by have := LT.out; omega))
    have q2 : wr.cell? ⟨w2.heap.size, 2, none⟩ = some (.slice (some ⟨gI, 0, none⟩) n eI) := (cell_of_heap BD'.out 2).trans rfl
    have q0 : wr.cell? ⟨w2.heap.size, 0, none⟩ = some (.slice E0 m e0) := (cell_of_heap BD'.out 0).trans rfl
    by_cases hi : i < n
    · have hid : decide (i < n) = true := decide_eq_true hi
      have hii : (i : Int) < (n : Int) := by omega
      obtain ⟨cur0, hc0, hz0⟩ := HC.out
      obtain ⟨y0, hy0⟩ := cell_in hc0 (j := i * 5) (by omega)
      have hf0 := free_of_heap hc0 (i * 5)
      obtain ⟨cur1, hc1, hz1⟩ := set_in hc0 (i * 5) (.string ⟨#[]⟩)
      obtain ⟨y1, hy1⟩ := cell_in hc1 (j := i * 5 + 1) (by omega)
      have hf1 := free_of_heap hc1 (i * 5 + 1)
      obtain ⟨cur2, hc2, hz2⟩ := set_in hc1 (i * 5 + 1) (.int .i64 0)
      obtain ⟨y2, hy2⟩ := cell_in hc2 (j := i * 5 + 2) (by omega)
      have hf2 := free_of_heap hc2 (i * 5 + 2)
      obtain ⟨cur3, hc3, hz3⟩ := set_in hc2 (i * 5 + 2) (.int .i64 0)
      obtain ⟨y3, hy3⟩ := cell_in hc3 (j := i * 5 + 3) (by omega)
      have hf3 := free_of_heap hc3 (i * 5 + 3)
      obtain ⟨cur4, hc4, hz4⟩ := set_in hc3 (i * 5 + 3) (.int .i64 0)
      obtain ⟨y4, hy4⟩ := cell_in hc4 (j := i * 5 + 4) (by omega)
      have hf4 := free_of_heap hc4 (i * 5 + 4)
      obtain ⟨cur5, hc5, hz5⟩ := set_in hc4 (i * 5 + 4) (.string ⟨#[]⟩)
      have HC5 := Aside0.mk (And.intro hc5 (hz5.trans (hz4.trans (hz3.trans (hz2.trans (hz1.trans hz0))))))
      have HS5 := Aside0.mk (show Since w1 (((((wr.setCell ⟨gI, i * 5, none⟩ (.string ⟨#[]⟩)).setCell ⟨gI, i * 5 + 1, none⟩ (.int .i64 0)).setCell ⟨gI, i * 5 + 2, none⟩ (.int .i64 0)).setCell ⟨gI, i * 5 + 3, none⟩ (.int .i64 0)).setCell ⟨gI, i * 5 + 4, none⟩ (.string ⟨#[]⟩)) from (((((HS.out.set LT.out.2.2.2.1 _).set LT.out.2.2.2.1 _).set LT.out.2.2.2.1 _).set LT.out.2.2.2.1 _).set LT.out.2.2.2.1 _))
      have HK5 := Aside0.mk (show Kept w3 (((((wr.setCell ⟨gI, i * 5, none⟩ (.string ⟨#[]⟩)).setCell ⟨gI, i * 5 + 1, none⟩ (.int .i64 0)).setCell ⟨gI, i * 5 + 2, none⟩ (.int .i64 0)).setCell ⟨gI, i * 5 + 3, none⟩ (.int .i64 0)).setCell ⟨gI, i * 5 + 4, none⟩ (.string ⟨#[]⟩)) (fun k => k = gI) from Kept.thru (Kept.thru (Kept.thru (Kept.thru (Kept.thru HK.out (kept_set _ _ _ _)) (kept_set _ _ _ _)) (kept_set _ _ _ _)) (kept_set _ _ _ _)) (kept_set _ _ _ _))
      clear hc5 hz1 hz2 hz3 hz4 hz5 hz0 hc0 hc1 hc2 hc3 hc4
      go_wp2
      obtain ⟨k2, hk2⟩ : ∃ k2, k2 = gk - 1 := ⟨_, rfl⟩
      go_roundg k2
      case measure => have := HI'.out; omega
      case rel => exact ⟨i + 1, by go_num, ⟨by have := HI'.out; omega⟩, HS5, HK5, ⟨_, HC5.out⟩⟩
    · have hid : decide (i < n) = false := decide_eq_false hi
      have hii : ¬ (i : Int) < (n : Int) := by omega
      go_wp2
      obtain ⟨wa, hwa⟩ : ∃ w, w = wr := ⟨_, rfl⟩
      rw [← hwa] at HS HK BD' ⊢
      have SA := HS
      have BDa := BD'
      have BWa := Aside0.mk (show 0 < m → ∃ cur, wa.heap[gW]? = some (.cells cur 3 (0, 0)) ∧ m ≤ cur.size from fun h0 => by
        obtain ⟨_, h2, _, c, h3, h4⟩ := BW.out h0
        exact ⟨c, Kept.block HK.out h3 h2, h4⟩)
      have hE0 := Aside0.mk (show 0 < m → E0 = some ⟨gW, 0, none⟩ ∧ gW < w2.heap.size from fun h0 => ⟨(BW.out h0).1, (BW.out h0).2.2.1⟩)
      clear hwa q0 q2 hid hii HS HK HC HI' BD'
      go_loopg [43] m (fun gk v43 wr => ∃ i : Nat, v43 = .int .i64 (i : Int) ∧ Aside0 (i + gk = m) ∧ Aside0 (Since w1 wr) ∧ Aside0 (Kept wa wr (fun k => 0 < m ∧ k = gW)) ∧ Aside0 (0 < m → ∃ cur, wr.heap[gW]? = some (.cells cur 3 (0, 0)) ∧ m ≤ cur.size))
      case atStart => exact ⟨0, rfl, ⟨by omega⟩, SA, ⟨kept_refl _ _⟩, BWa⟩
      case round =>
        obtain ⟨i2, rfl, HI2, HS, HK, HC⟩ := hrel
        have BD2 := Aside0.mk (Kept.block HK.out BDa.out (fun hx => by have := hE0.out hx.1; omega))
        have q0 : wr.cell? ⟨w2.heap.size, 0, none⟩ = some (.slice E0 m e0) := (cell_of_heap BD2.out 0).trans rfl
        by_cases hi2 : i2 < m
        · have hid : decide (i2 < m) = true := decide_eq_true hi2
          have hii : (i2 : Int) < (m : Int) := by omega
          have hm0 : 0 < m := by omega
          obtain ⟨hE, hgW⟩ := hE0.out hm0
          rw [hE] at q0
          obtain ⟨cur0, hc0, hz0⟩ := HC.out hm0
          obtain ⟨y0, hy0⟩ := cell_in hc0 (j := i2) (by omega)
          have hf0 := free_of_heap hc0 i2
          obtain ⟨cur1, hc1, hz1⟩ := set_in hc0 i2 (.int .i64 (-1))
          have HC1 := Aside0.mk (And.intro hc1 (show m ≤ cur1.size by omega))
          have HS1 := Aside0.mk (show Since w1 (wr.setCell ⟨gW, i2, none⟩ (.int .i64 (-1))) from HS.out.set LT.out.2.2.2.2.2.1 _)
          have HK1 := Aside0.mk (show Kept wa (wr.setCell ⟨gW, i2, none⟩ (.int .i64 (-1))) (fun k => 0 < m ∧ k = gW) from Kept.thru HK.out (kept_put _ _ _ _ ⟨hm0, rfl⟩))
          clear hc0 hc1 hz1 hz0 hE hgW
          go_wp2
          obtain ⟨k2, hk2⟩ : ∃ k2, k2 = gk - 1 := ⟨_, rfl⟩
          go_roundg k2
          case measure => have := HI2.out; omega
          case rel => exact ⟨i2 + 1, by go_num, ⟨by have := HI2.out; omega⟩, HS1, HK1, ⟨fun _ => ⟨_, HC1.out⟩⟩⟩
        · have hid : decide (i2 < m) = false := decide_eq_false hi2
          have hii : ¬ (i2 : Int) < (m : Int) := by omega
          have hcv2 := bs_conv (HB1.out.since HS.out)
          rw [← HL.out, ← HSB.out] at hcv2
          go_wp2
          have SB := Aside0.mk (SB1.out.trans HS.out)
          have BC := Aside0.mk (show ∃ cur, wr.heap[g]? = some (.cells cur 5 (0, 0)) ∧ L ≤ cur.size from by
            obtain ⟨c, h1, h2⟩ := HCS.out
            exact ⟨c, Cd.blk HS.out.b h1, by rw [HL.out]; exact h2⟩)
          obtain ⟨wb, hwb⟩ : ∃ w, w = wr := ⟨_, rfl⟩
          rw [← hwb] at SB BC ⊢
          clear hwb q0 hid hii hcv2 HS HK HC HI2 BD2
          go_loopg [57] L (fun gk v57 wr => ∃ i : Nat, v57 = .int .i64 (i : Int) ∧ Aside0 (i + gk = L) ∧ Aside0 (Since V wr) ∧ Aside0 (∃ cur, wr.heap[g]? = some (.cells cur 5 (0, 0)) ∧ L ≤ cur.size))
          case atStart => exact ⟨0, rfl, ⟨by omega⟩, SB, BC⟩
          case round =>
            obtain ⟨i3, rfl, HI3, HS, HC⟩ := hrel
            by_cases hi3 : i3 < L
            · have hid : decide (i3 < L) = true := decide_eq_true hi3
              have hii : (i3 : Int) < (L : Int) := by omega
              obtain ⟨cur0, hc0, hz0⟩ := HC.out
              obtain ⟨y0, hy0⟩ := cell_in hc0 (j := i3) (by omega)
              have hf0 := free_of_heap hc0 i3
              obtain ⟨cur1, hc1, hz1⟩ := set_in hc0 i3 (.int .u8 255)
              have HC1 := Aside0.mk (And.intro hc1 (show L ≤ cur1.size by omega))
              have HS1 := Aside0.mk (show Since V (wr.setCell ⟨g, i3, none⟩ (.int .u8 255)) from HS.out.set LT.out.2.1 _)
              clear hc0 hc1 hz1 hz0
              go_wp2
              obtain ⟨k2, hk2⟩ : ∃ k2, k2 = gk - 1 := ⟨_, rfl⟩
              go_roundg k2
              case measure => have := HI3.out; omega
              case rel => exact ⟨i3 + 1, by go_num, ⟨by have := HI3.out; omega⟩, HS1, ⟨_, HC1.out⟩⟩
            · have hid : decide (i3 < L) = false := decide_eq_false hi3
              have hii : ¬ (i3 : Int) < (L : Int) := by omega
              have hB9 := Cd.blk HS.out.b BV.out
              have z0 : wr.cell? ⟨W.heap.size, 0, none⟩ = some (.slice A0 m c0) := (cell_of_heap hB9 0).trans rfl
              have z1 : wr.cell? ⟨W.heap.size, 1, none⟩ = some (.int .i64 rg) := (cell_of_heap hB9 1).trans rfl
              have z2 : wr.cell? ⟨W.heap.size, 2, none⟩ = some (.slice A2 n c2) := (cell_of_heap hB9 2).trans rfl
              have SR := Aside0.mk (SV.out.trans HS.out)
              clear hB9
              go_wp2_with (first
                | (go_at_call 7; go_loud (refine (HE.out wr SR.out).mono ?_; rintro e w5 ⟨v, rfl, hb⟩; obtain ⟨g5, cy, hv, hBs, _, _⟩ := bow_cells hb (by have := HL.out; omega); rw [← HL.out] at hv; subst hv; have hcy := bs_conv hBs; rw [← HL.out, ← HSB.out] at hcy; have S5 := Aside0.mk (SR.out.trans hb.since); clear hb hBs))
                | (go_at_call 10; go_loud (refine (alive_calls _).mono ?_; rintro e w6 ⟨rfl, hs6⟩; have S6 := Aside0.mk (S5.out.trans hs6); clear hs6)))
              go_ret
              exact ⟨rfl, S6.out⟩

theorem own_calls {W : World} (A0 : Option Addr) (c0 : Nat) (ws : List Int) (rg : Int) (A2 : Option Addr) (c2 : Nat) (xs : List S39) (h : Pg W A0 c0 ws rg A2 c2 xs) (W' : World) (e : W' = W) :
    Calls Try.prog 5 #[.agg #[.slice A0 ws.length c0, .int .i64 rg, .slice A2 xs.length c2]] W' fun e w' => e = .returned (.bool true) ∧ Below W.heap.size W w' := by
  subst e
  cases hc : chkB ws rg xs
  · exact (own_no h hc).mono fun e w' hh => ⟨hh.1, hh.2.b⟩
  · exact (own_yes h hc).mono fun e w' hh => ⟨hh.1, hh.2.b⟩

end Go.Proofs.Ytdecgknnbegobaa.Cd

namespace Go.Proofs.Ytdecgknnbegobaa.codeOwn
open Go.ChangeShapes Go.WideShapes Go.ChangeAt Go.RowKit Go.Proofs.YtdecgknnbegobaaW Go.Proofs.Ytdecgknnbegobaa.Cd
open Go.ChangeMaps (open_string shut_string)
set_option linter.unusedVariables false
theorem own : ownKnob Try.prog.godebug = none := by kernel_rfl
theorem laidOut : laidOutB Try.prog = true := by kernel_rfl
set_option maxRecDepth 100000 in
theorem lifted (os : Os) (started : os.Started) (H : Type) (enc : TypeId × Value → H) :
    ReturnsInHanded {} Try.checked os 5 .any (Rows.codeOwnSpec.pre6 enc Try.prog Try.f5 Rows.codeOwnRow.domain false) (Rows.codeOwnSpec.post enc Try.prog Try.f5 false true false false) := by
  refine returnsInHanded_of_change_sized (C := Try.checked) own started (by kernel_rfl) Try.func5
    (ChangeSpec.witness6 (enc := enc) (C := Try.checked) false ⟨#[], #[.agg #[.slice none 0 0, .int .i64 0, .slice none 0 0]], []⟩ 8 (by kernel_rfl) (by kernel_rfl) (by kernel_rfl) (by kernel_rfl)) ?_
  intro W base args ds gs before hval0 hW hcnd hsz0 _
  have hsz : (DataW.weightsEach Try.prog (Try.f5.params.toList ++ Rows.codeOwnSpec.plain.varTypes Try.prog) (ds ++ gs)).all (· ≤ reachBytes) = true := hsz0
  have hval : ∀ (j : Nat) t v, Try.f5.params[j]? = some t → args[j]? = some v → Value.okWide Try.prog W .any base t v := hval0
  have hW' := hW
  obtain ⟨p, q, hA0, hV, rfl, hfz, hnd⟩ := hW
  have hA : DataW.TrodAll enc Try.prog W 0 (fun _ => true) true Try.f5.params.toList args.toList ds p := hA0
  rw [Try.params5] at hA hval hsz
  obtain ⟨v0, vs0, d0, ds0, p0, q0, hargs, rfl, rfl, h0, r0⟩ := trodAll_cons hA
  obtain ⟨rfl, rfl, rfl⟩ := trodAll_nil r0
  obtain rfl : args = #[v0] := by cases args; simp_all
  obtain ⟨rfl, rfl⟩ := trodVars_none hV
  have k0 := h0
  have lt0 : ∀ x ∈ p0, x.block < W.heap.size := by obtain ⟨m, hm⟩ := k0; exact DataW.trod_lt m _ _ _ hm
  obtain ⟨A0, c0, l0, g0, B0, e0, x0, rfl, s0⟩ := open_code hsz (j := 0) rfl rfl (hval 0 25 v0 rfl rfl) h0
  clear hA0 hval0 hsz0 hsz
  refine (own_calls A0 c0 l0 g0 B0 e0 x0 s0 W rfl).mono fun e W' ⟨he, bel⟩ => ?_
  subst he
  exact ⟨_, rfl, _, _, _, [], _, [], hW', trodAll_mk1 (shut_bool Try.underlying4 _), (trodAll_cons_mk (Below.trod laidOut (by kernel_rfl) (of_decide_eq_true (by kernel_rfl)) k0 bel lt0) trodAll_mk0), rfl, bel.frame _, fun h => by cases h⟩
theorem over : Rows.codeOwnRow.holds Try.pinned (OpenSpec.ofChange Rows.codeOwnSpec) :=
  OpenClaim.holds_of_wide 5 Try.f5 rfl rfl rfl rfl rfl rfl rfl ⟨rfl, rfl, rfl, rfl, rfl⟩ rfl rfl rfl rfl rfl (by kernel_rfl) Try.func5 (by kernel_rfl)
    (of_decide_eq_true (by kernel_rfl)) (by unfold Func.isWrapper; first | (rw [if_pos (by decide +kernel)]; kernel_rfl) | (rw [if_neg (by decide +kernel)]; exact ⟨rfl, rfl⟩))
    (fun os started H enc _ => lifted os started H enc)
end Go.Proofs.Ytdecgknnbegobaa.codeOwn
namespace Go.Proofs.Ytdecgknnbegobaa
/-- The statement, under a short name, for the claim. -/
theorem codeOwn_holds : Rows.CodeOwnSaid := codeOwn.over
#print axioms codeOwn_holds
end Go.Proofs.Ytdecgknnbegobaa
