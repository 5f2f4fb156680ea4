/- Own texts, joined and cut to what the claim stands on: RlLaw3. -/
import Derived.Test.YtcmllllbmgcnlaaGreatK31
import Derived.Test.YtcmllllbmgcnlaaGreatK7
section
namespace Go.Proofs.YtcmllllbmgcnlaaGreat.Rl
open Go.RowKit Go.Lib Go.Shelf Go.Proofs.YtcmllllbmgcnlaaGreat.G Go.Proofs.YtcmllllbmgcnlaaGreat.Tup Go.Proofs.YtcmllllbmgcnlaaGreatW.PrintWords Go.Proofs.YtcmllllbmgcnlaaGreatW.PrintLast Go.Proofs.YtcmllllbmgcnlaaGreatW.PrintMore
open Go.Proofs.YtcmllllbmgcnlaaGreat.Ch (rwrongS pickS pickS_some)
set_option linter.unusedVariables false
set_option linter.unusedSimpArgs false
set_option maxHeartbeats 4000000 in
set_option maxRecDepth 100000 in
theorem right_calls (W : World) (n : Int) : Calls Tryz.prog 19 #[.int .i64 n] W fun e w' => e = .returned (.bool (rightB n)) ∧ W = w' := by
  have e : rightB n = (decide (n ≥ -1125899906842624) && decide (n ≤ 1125899906842624)) := by
    unfold rightB
    by_cases h1 : n < -1125899906842624 <;> by_cases h2 : n > 1125899906842624 <;> simp [h1, h2] <;> omega
  rw [e]
  cases c1 : decide (n ≥ -1125899906842624) <;> cases c2 : decide (n ≤ 1125899906842624)
  all_goals
    go_enter Tryz.func19, Tryz.ntmps19
    go_wp2
    go_ret
    exact ⟨rfl, rfl⟩
set_option maxHeartbeats 8000000 in
set_option maxRecDepth 100000 in
theorem relNotes_calls {W : World} (x y : Nat) (h : Int) (hw : (Lit.int .i64 h).wf = true) (k : Int) (kw : (Lit.int .i64 k).wf = true) (W' : World) (e : W' = W) :
    Calls Tryz.prog 4 #[.agg #[.float .f64 x, .float .f64 y], .int .i64 h, .int .i64 k] W' fun e w' => e = .returned (.bool true) ∧ Below W.heap.size W w' := by
  subst e
  have HH := Aside0.mk (fun w => height_calls w x y)
  have HR := Aside0.mk (fun w => rheight_calls w x y)
  obtain ⟨F, hF⟩ : ∃ F, F = heightF x y := ⟨_, rfl⟩
  rw [← hF] at HH HR
  clear hF
  obtain ⟨f1, f2, f3⟩ := F
  have n1 : (f1 != f1) = false := by simp
  have n2 : (f2 != f2) = false := by simp
  have e1 : (h == h) = true := by simp
  have e2 : (k == k) = true := by simp
  have z0 : FloatKind.f64.format.order 0 0 = some .eq := by decide
  have HN := Aside0.mk (fun w => note_calls w h k)
  have RH := Aside0.mk (fun w => right_calls w h)
  have RK := Aside0.mk (fun w => right_calls w k)
  have hN : noteF h k = if rightB h && rightB k then ((nf h, nf k), 0) else ((0, 0), 1) := rfl
  have HB0 := Aside0.mk (((Since.refl W').alloc (.cells #[.float .f64 x, .float .f64 y] 37)).drew).b
  have c0 : (W'.alloc (.cells #[.float .f64 x, .float .f64 y] 37)).cell? ⟨W'.heap.size, 0, none⟩ = some (.float .f64 x) := (Tup.cell_of_heap (heap_alloc_new _ _) 0).trans rfl
  have c1 : (W'.alloc (.cells #[.float .f64 x, .float .f64 y] 37)).cell? ⟨W'.heap.size, 1, none⟩ = some (.float .f64 y) := (Tup.cell_of_heap (heap_alloc_new _ _) 1).trans rfl
  cases hb : rightB h && rightB k
  · rw [hb] at hN
    simp only [Bool.false_eq_true, if_false] at hN
    rw [hN] at HN
    clear hN
    cases r1 : rightB h <;> rw [r1] at RH hb <;> cases r2 : rightB k <;> rw [r2] at RK hb <;> first | (exfalso; revert hb; decide) | skip
    all_goals
      clear hb r1 r2
      cases f3
      all_goals
        go_enter Tryz.func4, Tryz.ntmps4
        go_wp2_with fail
        go_region
        go_wp2_with (first
          | (go_at_call 17; with_reducible refine (HH.out _).mono ?_; rintro e w1 ⟨rfl, hw1⟩; subst hw1)
          | (go_at_call 14; with_reducible refine (HR.out _).mono ?_; rintro e w1 ⟨rfl, hw1⟩; subst hw1)
          | (go_at_call 18; with_reducible refine (HN.out _).mono ?_; rintro e w1 ⟨rfl, hw1⟩; subst hw1)
          | (go_at_call 19; with_reducible refine (RH.out _).mono ?_; rintro e w1 ⟨rfl, hw1⟩; subst hw1)
          | (go_at_call 19; with_reducible refine (RK.out _).mono ?_; rintro e w1 ⟨rfl, hw1⟩; subst hw1)
          | (go_at_call 12; refine (alive_calls _).mono ?_; rintro e w5 ⟨rfl, hb5⟩; have HB5 := Aside0.mk hb5; clear hb5))
        go_ret
        exact ⟨rfl, below_then HB0.out HB0.out.size HB5.out⟩
  · rw [hb] at hN
    simp only [if_true] at hN
    rw [hN] at HN
    clear hN
    obtain ⟨r1, r2⟩ := Bool.and_eq_true_iff.1 hb
    have HG := Aside0.mk (fun w => height_calls w (nf h) (nf k))
    rw [heightF_nf r1 r2] at HG
    rw [r1] at RH
    rw [r2] at RK
    clear r1 r2 hb
    cases f3
    all_goals
      go_enter Tryz.func4, Tryz.ntmps4
      go_wp2_with fail
      go_region
      go_wp2_with (first
        | (go_at_call 17; with_reducible refine (HH.out _).mono ?_; rintro e w1 ⟨rfl, hw1⟩; subst hw1)
        | (go_at_call 17; with_reducible refine (HG.out _).mono ?_; rintro e w1 ⟨rfl, hw1⟩; subst hw1)
        | (go_at_call 14; with_reducible refine (HR.out _).mono ?_; rintro e w1 ⟨rfl, hw1⟩; subst hw1)
        | (go_at_call 18; with_reducible refine (HN.out _).mono ?_; rintro e w1 ⟨rfl, hw1⟩; subst hw1)
        | (go_at_call 19; with_reducible refine (RH.out _).mono ?_; rintro e w1 ⟨rfl, hw1⟩; subst hw1)
        | (go_at_call 19; with_reducible refine (RK.out _).mono ?_; rintro e w1 ⟨rfl, hw1⟩; subst hw1)
        | (go_at_call 12; refine (alive_calls _).mono ?_; rintro e w5 ⟨rfl, hb5⟩; have HB5 := Aside0.mk hb5; clear hb5))
      go_ret
      exact ⟨rfl, below_then HB0.out HB0.out.size HB5.out⟩
end Go.Proofs.YtcmllllbmgcnlaaGreat.Rl
end
