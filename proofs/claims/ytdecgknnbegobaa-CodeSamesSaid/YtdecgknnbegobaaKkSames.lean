/- CodeSames: the walk. The statement CodeSames: whatever the input, the law answers true, and the input reads as it did. Conditions: none. -/
import Derived.Test.YtdecgknnbegobaaK6
import Derived.Test.YtdecgknnbegobaaRows
import Derived.WalkKit
import Derived.ProofKit
import Derived.OpenShut
import Derived.ShutString
import Derived.ChangeOld
import Derived.Below
import Derived.SizedLaws
import Derived.Test.YtdecgknnbegobaaWSized
namespace Go.Proofs.Ytdecgknnbegobaa.Cd
open Go.RowKit Go.Lib Go.Maps Go.Proofs.Ytdecgknnbegobaa.D Go.Proofs.YtdecgknnbegobaaW.PrintWords Go.Proofs.YtdecgknnbegobaaW.PrintLast Go.Proofs.YtdecgknnbegobaaW.PrintMore
set_option linter.unusedVariables false
set_option linter.unusedSimpArgs false

set_option maxHeartbeats 8000000 in
set_option maxRecDepth 100000 in
theorem sames_main {W : World} {A0 : Option Addr} {c0 : Nat} {ws : List Int} {rg : Int} {A2 : Option Addr} {c2 : Nat} {xs : List S39} (h : Pr W A0 c0 ws A2 c2 xs) {B0 : Option Addr} {d0 : Nat} {ws' : List Int} {rg' : Int} {B2 : Option Addr} {d2 : Nat} {xs' : List S39} (g : Pr W B0 d0 ws' B2 d2 xs') :
    Calls Try.prog 6 #[.agg #[.slice A0 ws.length c0, .int .i64 rg, .slice A2 xs.length c2], .agg #[.slice B0 ws'.length d0, .int .i64 rg', .slice B2 xs'.length d2]] W fun e w' => e = .returned (.bool true) ∧ Since W w' := by
  obtain ⟨V, hV⟩ : ∃ V, V = (W.alloc (.cells #[.slice A0 ws.length c0, .int .i64 rg, .slice A2 xs.length c2] 25)).alloc (.cells #[.slice B0 ws'.length d0, .int .i64 rg', .slice B2 xs'.length d2] 25) := ⟨_, rfl⟩
  have hs : Since W V := by rw [hV]; exact ((Since.refl W).alloc _).alloc _
  have SV := Aside0.mk hs
  have h1 : V.heap[W.heap.size]? = some (.cells #[.slice A0 ws.length c0, .int .i64 rg, .slice A2 xs.length c2] 25 (0, 0)) := by
    rw [hV]; exact (Below.heap_alloc _ _ _ (by simp)).trans (heap_alloc_new W _)
  have h2 : V.heap[W.heap.size + 1]? = some (.cells #[.slice B0 ws'.length d0, .int .i64 rg', .slice B2 xs'.length d2] 25 (0, 0)) := by
    have := heap_alloc_new (W.alloc (.cells #[.slice A0 ws.length c0, .int .i64 rg, .slice A2 xs.length c2] 25)) (.cells #[.slice B0 ws'.length d0, .int .i64 rg', .slice B2 xs'.length d2] 25)
    rw [World.size_alloc] at this
    rw [hV]; exact this
  obtain ⟨s, hs'⟩ : ∃ s, s = sameB ws rg xs ws' rg' xs' := ⟨_, rfl⟩
  have C1 := Aside0.mk (fun w' (k : Since V w') => codeSame_calls (rg := rg) (rg' := rg') w' (h.since (hs.trans k)) (g.since (hs.trans k)))
  have C2 := Aside0.mk (fun w' (k : Since V w') => refSame_calls (rg := rg) (rg' := rg') w' (h.since (hs.trans k)) (g.since (hs.trans k)))
  have C3 := Aside0.mk (fun w' (k : Since V w') => codeSame_calls (rg := rg) (rg' := rg) w' (h.since (hs.trans k)) (h.since (hs.trans k)))
  have C4 := Aside0.mk (fun w' (k : Since V w') => codeSame_calls (rg := rg') (rg' := rg) w' (g.since (hs.trans k)) (h.since (hs.trans k)))
  rw [← hs'] at C1 C2
  rw [sameB_self] at C3
  rw [sameB_comm ws rg xs ws' rg' xs', ← hs'] at C4
  obtain ⟨m, hm⟩ : ∃ m, m = ws.length := ⟨_, rfl⟩
  obtain ⟨n, hn⟩ : ∃ n, n = xs.length := ⟨_, rfl⟩
  obtain ⟨m', hm'⟩ : ∃ m, m = ws'.length := ⟨_, rfl⟩
  obtain ⟨n', hn'⟩ : ∃ n, n = xs'.length := ⟨_, rfl⟩
  rw [← hm, ← hn] at C1 C2 C3 C4 hV h1 ⊢
  rw [← hm', ← hn'] at C1 C2 C4 hV h2 ⊢
  have HV := Aside0.mk hV
  have HCC := Aside0.mk (show ∀ w', Since V w' → ((w'.cell? ⟨W.heap.size, 0, none⟩ = some (.slice A0 m c0) ∧ w'.cell? ⟨W.heap.size, 1, none⟩ = some (.int .i64 rg) ∧ w'.cell? ⟨W.heap.size, 2, none⟩ = some (.slice A2 n c2)) ∧ (w'.cell? ⟨W.heap.size + 1, 0, none⟩ = some (.slice B0 m' d0) ∧ w'.cell? ⟨W.heap.size + 1, 1, none⟩ = some (.int .i64 rg') ∧ w'.cell? ⟨W.heap.size + 1, 2, none⟩ = some (.slice B2 n' d2))) ∧ Since V w' from fun w' hs => by
    have g1 := Cd.blk hs.b h1
    have g2 := Cd.blk hs.b h2
    exact ⟨⟨⟨(cell_of_heap g1 0).trans rfl, (cell_of_heap g1 1).trans rfl, (cell_of_heap g1 2).trans rfl⟩, ⟨(cell_of_heap g2 0).trans rfl, (cell_of_heap g2 1).trans rfl, (cell_of_heap g2 2).trans rfl⟩⟩, hs⟩)
  have hS1 := (Since.refl V).drew
  obtain ⟨⟨⟨j0, j1, j2⟩, ⟨j3, j4, j5⟩⟩, _⟩ := HCC.out _ hS1
  clear hV hs h1 h2 hs' hm hn hm' hn' h g
  go_enter Try.func6, Try.ntmps6
  go_wp2_with fail
  rw [← HV.out]
  go_region_held3 (fun w' => ((w'.cell? ⟨W.heap.size, 0, none⟩ = some (.slice A0 m c0) ∧ w'.cell? ⟨W.heap.size, 1, none⟩ = some (.int .i64 rg) ∧ w'.cell? ⟨W.heap.size, 2, none⟩ = some (.slice A2 n c2)) ∧ (w'.cell? ⟨W.heap.size + 1, 0, none⟩ = some (.slice B0 m' d0) ∧ w'.cell? ⟨W.heap.size + 1, 1, none⟩ = some (.int .i64 rg') ∧ w'.cell? ⟨W.heap.size + 1, 2, none⟩ = some (.slice B2 n' d2))) ∧ Since V w')
    (exact HCC.out _ (by first | assumption | (go_split_ands; first | assumption | exact Since.trans (by assumption) (by assumption))))
    (first
      | (go_at_call 11; first | ((with_reducible refine (C1.out _ (by first | assumption | (go_split_ands; assumption))).mono ?_); rintro e w' ⟨rfl, hs5⟩) | ((with_reducible refine (C3.out _ (by first | assumption | (go_split_ands; assumption))).mono ?_); rintro e w' ⟨rfl, hs6⟩) | ((with_reducible refine (C4.out _ (by first | assumption | (go_split_ands; assumption))).mono ?_); rintro e w' ⟨rfl, hs7⟩))
      | (go_at_call 9; (with_reducible refine (C2.out _ (by first | assumption | (go_split_ands; assumption))).mono ?_); rintro e w' ⟨rfl, hs8⟩)
      | (go_at_call 10; (with_reducible refine (alive_calls _).mono ?_); rintro e w' ⟨rfl, hs9⟩))
  have hss : Since V w' := by go_split_ands; assumption
  have S9 := Aside0.mk (SV.out.trans hss)
  clear hs5 hs6 hs7 hs8 hs9 hss
  go_wp2_with fail
  go_ret
  exact ⟨rfl, S9.out⟩
theorem sames_calls {W : World} (A0 : Option Addr) (c0 : Nat) (ws : List Int) (rg : Int) (A2 : Option Addr) (c2 : Nat) (xs : List S39) (h : Pg W A0 c0 ws rg A2 c2 xs) (B0 : Option Addr) (d0 : Nat) (ws' : List Int) (rg' : Int) (B2 : Option Addr) (d2 : Nat) (xs' : List S39) (g : Pg W B0 d0 ws' rg' B2 d2 xs') (W' : World) (e : W' = W) :
    Calls Try.prog 6 #[.agg #[.slice A0 ws.length c0, .int .i64 rg, .slice A2 xs.length c2], .agg #[.slice B0 ws'.length d0, .int .i64 rg', .slice B2 xs'.length d2]] W' fun e w' => e = .returned (.bool true) ∧ Below W.heap.size W w' := by
  subst e
  exact (sames_main ⟨h.h0, h.h2, h.hc2⟩ ⟨g.h0, g.h2, g.hc2⟩).mono fun e w' hh => ⟨hh.1, hh.2.b⟩

end Go.Proofs.Ytdecgknnbegobaa.Cd

namespace Go.Proofs.Ytdecgknnbegobaa.codeSames
open Go.ChangeShapes Go.WideShapes Go.ChangeAt Go.RowKit Go.Proofs.YtdecgknnbegobaaW Go.Proofs.Ytdecgknnbegobaa.Cd
open Go.ChangeMaps (open_string shut_string)
set_option linter.unusedVariables false
theorem own : ownKnob Try.prog.godebug = none := by kernel_rfl
theorem laidOut : laidOutB Try.prog = true := by kernel_rfl
set_option maxRecDepth 100000 in
theorem lifted (os : Os) (started : os.Started) (H : Type) (enc : TypeId × Value → H) :
    ReturnsInHanded {} Try.checked os 6 .any (Rows.codeSamesSpec.pre6 enc Try.prog Try.f6 Rows.codeSamesRow.domain false) (Rows.codeSamesSpec.post enc Try.prog Try.f6 false true false false) := by
  refine returnsInHanded_of_change_sized (C := Try.checked) own started (by kernel_rfl) Try.func6
    (ChangeSpec.witness6 (enc := enc) (C := Try.checked) false ⟨#[], #[.agg #[.slice none 0 0, .int .i64 0, .slice none 0 0], .agg #[.slice none 0 0, .int .i64 0, .slice none 0 0]], []⟩ 8 (by kernel_rfl) (by kernel_rfl) (by kernel_rfl) (by kernel_rfl)) ?_
  intro W base args ds gs before hval0 hW hcnd hsz0 _
  have hsz : (DataW.weightsEach Try.prog (Try.f6.params.toList ++ Rows.codeSamesSpec.plain.varTypes Try.prog) (ds ++ gs)).all (· ≤ reachBytes) = true := hsz0
  have hval : ∀ (j : Nat) t v, Try.f6.params[j]? = some t → args[j]? = some v → Value.okWide Try.prog W .any base t v := hval0
  have hW' := hW
  obtain ⟨p, q, hA0, hV, rfl, hfz, hnd⟩ := hW
  have hA : DataW.TrodAll enc Try.prog W 0 (fun _ => true) true Try.f6.params.toList args.toList ds p := hA0
  rw [Try.params6] at hA hval hsz
  obtain ⟨v0, vs0, d0, ds0, p0, q0, hargs, rfl, rfl, h0, r0⟩ := trodAll_cons hA
  obtain ⟨v1, vs1, d1, ds1, p1, q1, rfl, rfl, rfl, h1, r1⟩ := trodAll_cons r0
  obtain ⟨rfl, rfl, rfl⟩ := trodAll_nil r1
  obtain rfl : args = #[v0, v1] := by cases args; simp_all
  obtain ⟨rfl, rfl⟩ := trodVars_none hV
  have k0 := h0
  have lt0 : ∀ x ∈ p0, x.block < W.heap.size := by obtain ⟨m, hm⟩ := k0; exact DataW.trod_lt m _ _ _ hm
  obtain ⟨A0, c0, l0, g0, B0, e0, x0, rfl, s0⟩ := open_code hsz (j := 0) rfl rfl (hval 0 25 v0 rfl rfl) h0
  have k1 := h1
  have lt1 : ∀ x ∈ p1, x.block < W.heap.size := by obtain ⟨m, hm⟩ := k1; exact DataW.trod_lt m _ _ _ hm
  obtain ⟨A1, c1, l1, g1, B1, e1, x1, rfl, s1⟩ := open_code hsz (j := 1) rfl rfl (hval 1 25 v1 rfl rfl) h1
  clear hA0 hval0 hsz0 hsz
  refine (sames_calls A0 c0 l0 g0 B0 e0 x0 s0 A1 c1 l1 g1 B1 e1 x1 s1 W rfl).mono fun e W' ⟨he, bel⟩ => ?_
  subst he
  exact ⟨_, rfl, _, _, _, [], _, [], hW', trodAll_mk1 (shut_bool Try.underlying4 _), (trodAll_cons_mk (Below.trod laidOut (by kernel_rfl) (of_decide_eq_true (by kernel_rfl)) k0 bel lt0) (trodAll_cons_mk (Below.trod laidOut (by kernel_rfl) (of_decide_eq_true (by kernel_rfl)) k1 bel lt1) trodAll_mk0)), rfl, bel.frame _, fun h => by cases h⟩
theorem over : Rows.codeSamesRow.holds Try.pinned (OpenSpec.ofChange Rows.codeSamesSpec) :=
  OpenClaim.holds_of_wide 6 Try.f6 rfl rfl rfl rfl rfl rfl rfl ⟨rfl, rfl, rfl, rfl, rfl⟩ rfl rfl rfl rfl rfl (by kernel_rfl) Try.func6 (by kernel_rfl)
    (of_decide_eq_true (by kernel_rfl)) (by unfold Func.isWrapper; first | (rw [if_pos (by decide +kernel)]; kernel_rfl) | (rw [if_neg (by decide +kernel)]; exact ⟨rfl, rfl⟩))
    (fun os started H enc _ => lifted os started H enc)
end Go.Proofs.Ytdecgknnbegobaa.codeSames
namespace Go.Proofs.Ytdecgknnbegobaa
/-- The statement, under a short name, for the claim. -/
theorem codeSames_holds : Rows.CodeSamesSaid := codeSames.over
#print axioms codeSames_holds
end Go.Proofs.Ytdecgknnbegobaa
