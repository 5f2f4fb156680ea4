/- CodeHeads: the walk. The statement CodeHeads: whatever the input, the law answers true, and the input reads as it did. Conditions: none. -/
import Derived.Test.YtdecgknnbegobaaK6
import Derived.Test.YtdecgknnbegobaaRows
import Derived.WalkKit
import Derived.ProofKit
import Derived.OpenShut
import Derived.ShutString
import Derived.ChangeOld
import Derived.Below
import Derived.SizedLaws
import Derived.Test.YtdecgknnbegobaaWSized
namespace Go.Proofs.Ytdecgknnbegobaa.Cd
open Go.RowKit Go.Lib Go.Maps Go.Proofs.Ytdecgknnbegobaa.D Go.Proofs.YtdecgknnbegobaaW.PrintWords Go.Proofs.YtdecgknnbegobaaW.PrintLast Go.Proofs.YtdecgknnbegobaaW.PrintMore
set_option linter.unusedVariables false
set_option linter.unusedSimpArgs false

theorem Bs.take {w : World} {A : Option Addr} {c : Nat} {l : List Int} (h : Bs w A c l) (k : Nat) (hk : k ≤ l.length) : (l.take k).length = k ∧ Bs w A c (l.take k) := by
  have hl : (l.take k).length = k := by simp; omega
  refine ⟨hl, ⟨?_, by have := h.le; omega, h.lim⟩⟩
  rw [hl]
  obtain ⟨h1, h2, h3⟩ := h.C
  refine ⟨hl, by omega, fun hp => ?_⟩
  obtain ⟨ad, e, hc⟩ := h3 (by omega)
  refine ⟨ad, e, fun j p hj => ?_⟩
  rw [List.getElem?_take] at hj
  split at hj
  · exact hc j p hj
  · cases hj
theorem enc_long (ws : List Int) (rg : Int) (xs : List S39) : 3 ≤ (encL ws rg xs).length := by
  unfold encL
  simp only [List.length_append, List.length_cons, List.length_nil]
  omega
theorem enc_short {ws : List Int} {rg : Int} {xs : List S39} (h : ProgOk ws rg xs) : (encL ws rg xs).length ≤ 400000000 := by
  have h1 := encX_len xs (fun x hx => (h.x x hx).s)
  have h2 := h.n
  have h3 := cnt_len ws.length
  have h4 := cnt_len rg.toNat
  have h5 := cnt_len xs.length
  have h6 := h.m
  unfold encL
  simp only [List.length_append, List.length_cons, List.length_nil]
  omega

set_option maxHeartbeats 8000000 in
set_option maxRecDepth 100000 in
theorem heads_no {W : World} {A0 : Option Addr} {c0 : Nat} {ws : List Int} {rg : Int} {A2 : Option Addr} {c2 : Nat} {xs : List S39} (h : Pg W A0 c0 ws rg A2 c2 xs) (cut : Int) (hno : chkB ws rg xs = false) :
    Calls Try.prog 4 #[.agg #[.slice A0 ws.length c0, .int .i64 rg, .slice A2 xs.length c2], .int .i64 cut] W fun e w' => e = .returned (.bool true) ∧ Since W w' := by
  obtain ⟨V, hV⟩ : ∃ V, V = W.alloc (.cells #[.slice A0 ws.length c0, .int .i64 rg, .slice A2 xs.length c2] 25) := ⟨_, rfl⟩
  have SV := Aside0.mk (show Since W V by rw [hV]; exact (Since.refl W).alloc _)
  have hE := encode_calls V (h.since SV.out)
  unfold EncEnd at hE
  simp only [hno, Bool.false_eq_true, if_false] at hE
  have HE := Aside0.mk hE
  obtain ⟨m, hm⟩ : ∃ m, m = ws.length := ⟨_, rfl⟩
  obtain ⟨n, hn⟩ : ∃ n, n = xs.length := ⟨_, rfl⟩
  rw [← hm, ← hn] at HE hV ⊢
  have HV := Aside0.mk hV
  clear hV hE h hno hm hn
  go_enter Try.func4, Try.ntmps4
  go_wp2_with (first
    | (go_at_call 7; go_loud (rw [← HV.out]; refine HE.out.mono ?_; rintro e w1 ⟨rfl, hs1⟩; have S1 := Aside0.mk (SV.out.trans hs1); clear hs1))
    | (go_at_call 10; go_loud (refine (alive_calls _).mono ?_; rintro e w2 ⟨rfl, hs2⟩; have S2 := Aside0.mk (S1.out.trans hs2); clear hs2)))
  go_ret
  exact ⟨rfl, S2.out⟩

set_option maxHeartbeats 8000000 in
set_option maxRecDepth 100000 in
theorem heads_yes {W : World} {A0 : Option Addr} {c0 : Nat} {ws : List Int} {rg : Int} {A2 : Option Addr} {c2 : Nat} {xs : List S39} (h : Pg W A0 c0 ws rg A2 c2 xs) (cut : Int) (hcut : -9223372036854775808 ≤ cut ∧ cut ≤ 9223372036854775807) (hyes : chkB ws rg xs = true) :
    Calls Try.prog 4 #[.agg #[.slice A0 ws.length c0, .int .i64 rg, .slice A2 xs.length c2], .int .i64 cut] W fun e w' => e = .returned (.bool true) ∧ Since W w' := by
  obtain ⟨V, hV⟩ : ∃ V, V = W.alloc (.cells #[.slice A0 ws.length c0, .int .i64 rg, .slice A2 xs.length c2] 25) := ⟨_, rfl⟩
  have SV := Aside0.mk (show Since W V by rw [hV]; exact (Since.refl W).alloc _)
  have hE := encode_calls V (h.since SV.out)
  unfold EncEnd at hE
  simp only [hyes, if_true] at hE
  have HE := Aside0.mk hE
  have hP := prog_ok hyes h.hx
  have HDC := Aside0.mk (fun k hk => decP_cut hP k hk)
  have H255 := Aside0.mk (enc_255 hP)
  have hl1 := enc_long ws rg xs
  have hl2 := enc_short hP
  obtain ⟨B, hB⟩ : ∃ B, B = encL ws rg xs := ⟨_, rfl⟩
  rw [← hB] at HE HDC H255 hl1 hl2
  obtain ⟨m, hm⟩ : ∃ m, m = ws.length := ⟨_, rfl⟩
  obtain ⟨n, hn⟩ : ∃ n, n = xs.length := ⟨_, rfl⟩
  rw [← hm, ← hn] at HE hV ⊢
  have HV := Aside0.mk hV
  obtain ⟨L, hL⟩ : ∃ L, L = B.length := ⟨_, rfl⟩
  rw [← hL] at hl1 hl2
  have HL := Aside0.mk hL
  have hL0 : ((L : Int) == 0) = false := by simp; omega
  have hL1 : ¬ (L : Int) = 0 := by omega
  obtain ⟨r, hr⟩ : ∃ r, r = cut.tmod (L : Int) := ⟨_, rfl⟩
  have hr1 : -(L : Int) < r ∧ r < (L : Int) := by
    rw [hr]
    constructor
    · have := Int.tmod_lt_of_pos (-cut) (show (0 : Int) < L by omega)
      rw [Int.neg_tmod] at this
      omega
    · exact Int.tmod_lt_of_pos cut (by omega)
  obtain ⟨k, hk⟩ : ∃ k : Nat, (r + (L : Int)).tmod (L : Int) = (k : Int) ∧ k < L := by
    have h1 := Int.tmod_nonneg (L : Int) (show 0 ≤ r + (L : Int) by omega)
    have h2 := Int.tmod_lt_of_pos (r + (L : Int)) (show (0 : Int) < L by omega)
    exact ⟨((r + (L : Int)).tmod (L : Int)).toNat, by omega, by omega⟩
  obtain ⟨hk1, hk2⟩ := hk
  have hwr : wrap64 r = r := by unfold wrap64; omega
  have hwr2 : wrap64 (r + (L : Int)) = r + (L : Int) := by unfold wrap64; omega
  have hwk : wrap64 (k : Int) = (k : Int) := by unfold wrap64; omega
  have hrr := hr.symm
  clear hV hE h hyes hm hn hP hB hL hr
  go_enter Try.func4, Try.ntmps4
  go_wp2_with (first
    | (go_at_call 7; go_loud (rw [← HV.out]; refine HE.out.mono ?_; rintro e w1 ⟨v, rfl, hb⟩; obtain ⟨g, cb, hv, hBs, _, _⟩ := bow_cells hb (by have := HL.out; omega); rw [← HL.out] at hv; subst hv; have HB1 := Aside0.mk hBs; have S1 := Aside0.mk (SV.out.trans hb.since); have hcb : L ≤ cb := (by have := hBs.le; have := HL.out; omega); have hcb2 := hBs.lim; clear hb hBs))
    | (go_at_call 8; go_loud (have hT := HB1.out.take k (by have := HL.out; omega); have hd := decode_calls w1 hT.2 (fun x hx => H255.out x (List.mem_of_mem_take hx)); rw [HDC.out k (by have := HL.out; omega), hT.1] at hd; refine hd.mono ?_; clear hd hT; rintro e w2 ⟨hs2, rfl⟩; have S2 := Aside0.mk (S1.out.trans hs2); clear hs2))
    | (go_at_call 10; go_loud (refine (alive_calls _).mono ?_; rintro e w3 ⟨rfl, hs3⟩; have S3 := Aside0.mk hs3; clear hs3)))
  go_ret
  exact ⟨rfl, (((S2.out.alloc _).alloc _)).trans S3.out⟩

theorem heads_calls {W : World} (A0 : Option Addr) (c0 : Nat) (ws : List Int) (rg : Int) (A2 : Option Addr) (c2 : Nat) (xs : List S39) (h : Pg W A0 c0 ws rg A2 c2 xs) (cut : Int) (hw : (Lit.int .i64 cut).wf = true) (W' : World) (e : W' = W) :
    Calls Try.prog 4 #[.agg #[.slice A0 ws.length c0, .int .i64 rg, .slice A2 xs.length c2], .int .i64 cut] W' fun e w' => e = .returned (.bool true) ∧ Below W.heap.size W w' := by
  subst e
  cases hc : chkB ws rg xs with
  | true => exact (heads_yes h cut (wf64 hw) hc).mono fun e w' hh => ⟨hh.1, hh.2.b⟩
  | false => exact (heads_no h cut hc).mono fun e w' hh => ⟨hh.1, hh.2.b⟩

end Go.Proofs.Ytdecgknnbegobaa.Cd

namespace Go.Proofs.Ytdecgknnbegobaa.codeHeads
open Go.ChangeShapes Go.WideShapes Go.ChangeAt Go.RowKit Go.Proofs.YtdecgknnbegobaaW Go.Proofs.Ytdecgknnbegobaa.Cd
open Go.ChangeMaps (open_string shut_string)
set_option linter.unusedVariables false
theorem own : ownKnob Try.prog.godebug = none := by kernel_rfl
theorem laidOut : laidOutB Try.prog = true := by kernel_rfl
set_option maxRecDepth 100000 in
theorem lifted (os : Os) (started : os.Started) (H : Type) (enc : TypeId × Value → H) :
    ReturnsInHanded {} Try.checked os 4 .any (Rows.codeHeadsSpec.pre6 enc Try.prog Try.f4 Rows.codeHeadsRow.domain false) (Rows.codeHeadsSpec.post enc Try.prog Try.f4 false true false false) := by
  refine returnsInHanded_of_change_sized (C := Try.checked) own started (by kernel_rfl) Try.func4
    (ChangeSpec.witness6 (enc := enc) (C := Try.checked) false ⟨#[], #[.agg #[.slice none 0 0, .int .i64 0, .slice none 0 0], .int .i64 0], []⟩ 8 (by kernel_rfl) (by kernel_rfl) (by kernel_rfl) (by kernel_rfl)) ?_
  intro W base args ds gs before hval0 hW hcnd hsz0 _
  have hsz : (DataW.weightsEach Try.prog (Try.f4.params.toList ++ Rows.codeHeadsSpec.plain.varTypes Try.prog) (ds ++ gs)).all (· ≤ reachBytes) = true := hsz0
  have hval : ∀ (j : Nat) t v, Try.f4.params[j]? = some t → args[j]? = some v → Value.okWide Try.prog W .any base t v := hval0
  have hW' := hW
  obtain ⟨p, q, hA0, hV, rfl, hfz, hnd⟩ := hW
  have hA : DataW.TrodAll enc Try.prog W 0 (fun _ => true) true Try.f4.params.toList args.toList ds p := hA0
  rw [Try.params4] at hA hval hsz
  obtain ⟨v0, vs0, d0, ds0, p0, q0, hargs, rfl, rfl, h0, r0⟩ := trodAll_cons hA
  obtain ⟨v1, vs1, d1, ds1, p1, q1, rfl, rfl, rfl, h1, r1⟩ := trodAll_cons r0
  obtain ⟨rfl, rfl, rfl⟩ := trodAll_nil r1
  obtain rfl : args = #[v0, v1] := by cases args; simp_all
  obtain ⟨rfl, rfl⟩ := trodVars_none hV
  have k0 := h0
  have lt0 : ∀ x ∈ p0, x.block < W.heap.size := by obtain ⟨m, hm⟩ := k0; exact DataW.trod_lt m _ _ _ hm
  obtain ⟨A0, c0, l0, g0, B0, e0, x0, rfl, s0⟩ := open_code hsz (j := 0) rfl rfl (hval 0 25 v0 rfl rfl) h0
  have k1 := h1
  have lt1 : ∀ x ∈ p1, x.block < W.heap.size := by obtain ⟨m, hm⟩ := k1; exact DataW.trod_lt m _ _ _ hm
  obtain ⟨n1, rfl, rfl, rfl, w1⟩ := open_int Try.underlying3 (hval 1 3 v1 rfl rfl) h1
  clear hA0 hval0 hsz0 hsz
  refine (heads_calls A0 c0 l0 g0 B0 e0 x0 s0 n1 w1 W rfl).mono fun e W' ⟨he, bel⟩ => ?_
  subst he
  exact ⟨_, rfl, _, _, _, [], _, [], hW', trodAll_mk1 (shut_bool Try.underlying4 _), (trodAll_cons_mk (Below.trod laidOut (by kernel_rfl) (of_decide_eq_true (by kernel_rfl)) k0 bel lt0) (trodAll_cons_mk (shut_int Try.underlying3 w1) trodAll_mk0)), rfl, bel.frame _, fun h => by cases h⟩
theorem over : Rows.codeHeadsRow.holds Try.pinned (OpenSpec.ofChange Rows.codeHeadsSpec) :=
  OpenClaim.holds_of_wide 4 Try.f4 rfl rfl rfl rfl rfl rfl rfl ⟨rfl, rfl, rfl, rfl, rfl⟩ rfl rfl rfl rfl rfl (by kernel_rfl) Try.func4 (by kernel_rfl)
    (of_decide_eq_true (by kernel_rfl)) (by unfold Func.isWrapper; first | (rw [if_pos (by decide +kernel)]; kernel_rfl) | (rw [if_neg (by decide +kernel)]; exact ⟨rfl, rfl⟩))
    (fun os started H enc _ => lifted os started H enc)
end Go.Proofs.Ytdecgknnbegobaa.codeHeads
namespace Go.Proofs.Ytdecgknnbegobaa
/-- The statement, under a short name, for the claim. -/
theorem codeHeads_holds : Rows.CodeHeadsSaid := codeHeads.over
#print axioms codeHeads_holds
end Go.Proofs.Ytdecgknnbegobaa
