/- The walk of the law TupleHeads. -/
import Derived.Test.YtcblhohfnmmaeaaTupSorts
namespace Go.Proofs.Ytcblhohfnmmaeaa.Tup
open Go.RowKit Go.Proofs.Ytcblhohfnmmaeaa.F Go.Proofs.YtcblhohfnmmaeaaW.PrintWords Go.Proofs.YtcblhohfnmmaeaaW.PrintLast Go.Proofs.YtcblhohfnmmaeaaW.PrintMore
set_option linter.unusedVariables false
set_option linter.unusedSimpArgs false

set_option maxHeartbeats 1000000 in
set_option maxRecDepth 100000 in
theorem heads_no (A0 : Option Addr) (c0 : Nat) (o : List Int) (z : Int) (A1 : Option Addr) (c1 : Nat) (a : List Int) (A2 : Option Addr) (c2 : Nat) (b : List Int) (A3 : Option Addr) (c3 : Nat) (d : List Int) (w : World)
    (h0 : Sl w A0 c0 o) (h1 : Sl w A1 c1 a) (h2 : Sl w A2 c2 b) (h3 : Sl w A3 c3 d) (hR : ¬ Rt o) :
    Calls Try.prog 6 #[.slice A0 o.length c0, .int .i64 z, .agg #[.slice A1 a.length c1, .slice A2 b.length c2, .slice A3 d.length c3]] w fun e w' => e = .returned (.bool true) ∧ Below w.heap.size w w' := by
  go_enter Try.func6, Try.ntmps6
  go_wp2_with (first
    | (go_at_call 9; refine (right_no _ _ _ _ (h0.alloc _) hR).mono ?_; rintro e w' ⟨rfl, ⟨nd, rfl⟩⟩)
    | (go_at_call 10; refine (alive_calls _).mono ?_; rintro e w' ⟨rfl, hb⟩))
  go_ret
  exact ⟨rfl, ((((Since.refl _).alloc _).drewN _).step hb).b⟩

set_option maxHeartbeats 1000000 in
set_option maxRecDepth 100000 in
theorem heads_len1 (A0 : Option Addr) (c0 : Nat) (o : List Int) (z : Int) (A1 : Option Addr) (c1 : Nat) (a : List Int) (A2 : Option Addr) (c2 : Nat) (b : List Int) (A3 : Option Addr) (c3 : Nat) (d : List Int) (w : World)
    (h0 : Sl w A0 c0 o) (h1 : Sl w A1 c1 a) (h2 : Sl w A2 c2 b) (h3 : Sl w A3 c3 d) (hR : Rt o) (e1 : ((a.length : Int) != (o.length : Int)) = true) (e1' : (a.length == o.length) = false) :
    Calls Try.prog 6 #[.slice A0 o.length c0, .int .i64 z, .agg #[.slice A1 a.length c1, .slice A2 b.length c2, .slice A3 d.length c3]] w fun e w' => e = .returned (.bool true) ∧ Below w.heap.size w w' := by
  go_enter Try.func6, Try.ntmps6
  go_wp2_with (first
    | (go_at_call 9; refine (right_yes _ _ _ _ (h0.alloc _) hR).mono ?_; rintro e w' ⟨rfl, ⟨nd, rfl⟩⟩)
    | (go_at_call 10; refine (alive_calls _).mono ?_; rintro e w' ⟨rfl, hb⟩))
  go_ret
  exact ⟨rfl, ((((Since.refl _).alloc _).drewN _).step hb).b⟩

set_option maxHeartbeats 1000000 in
set_option maxRecDepth 100000 in
theorem heads_len2 (A0 : Option Addr) (c0 : Nat) (o : List Int) (z : Int) (A1 : Option Addr) (c1 : Nat) (a : List Int) (A2 : Option Addr) (c2 : Nat) (b : List Int) (A3 : Option Addr) (c3 : Nat) (d : List Int) (w : World)
    (h0 : Sl w A0 c0 o) (h1 : Sl w A1 c1 a) (h2 : Sl w A2 c2 b) (h3 : Sl w A3 c3 d) (hR : Rt o) (e1 : ((a.length : Int) != (o.length : Int)) = false) (e1' : (a.length == o.length) = true) (e2 : ((b.length : Int) != (o.length : Int)) = true) (e2' : (b.length == o.length) = false) :
    Calls Try.prog 6 #[.slice A0 o.length c0, .int .i64 z, .agg #[.slice A1 a.length c1, .slice A2 b.length c2, .slice A3 d.length c3]] w fun e w' => e = .returned (.bool true) ∧ Below w.heap.size w w' := by
  go_enter Try.func6, Try.ntmps6
  go_wp2_with (first
    | (go_at_call 9; refine (right_yes _ _ _ _ (h0.alloc _) hR).mono ?_; rintro e w' ⟨rfl, ⟨nd, rfl⟩⟩)
    | (go_at_call 10; refine (alive_calls _).mono ?_; rintro e w' ⟨rfl, hb⟩))
  go_ret
  exact ⟨rfl, ((((Since.refl _).alloc _).drewN _).step hb).b⟩

set_option maxHeartbeats 1000000 in
set_option maxRecDepth 100000 in
theorem heads_len3 (A0 : Option Addr) (c0 : Nat) (o : List Int) (z : Int) (A1 : Option Addr) (c1 : Nat) (a : List Int) (A2 : Option Addr) (c2 : Nat) (b : List Int) (A3 : Option Addr) (c3 : Nat) (d : List Int) (w : World)
    (h0 : Sl w A0 c0 o) (h1 : Sl w A1 c1 a) (h2 : Sl w A2 c2 b) (h3 : Sl w A3 c3 d) (hR : Rt o) (e1 : ((a.length : Int) != (o.length : Int)) = false) (e1' : (a.length == o.length) = true) (e2 : ((b.length : Int) != (o.length : Int)) = false) (e2' : (b.length == o.length) = true) (e3 : ((d.length : Int) != (o.length : Int)) = true) (e3' : (d.length == o.length) = false) :
    Calls Try.prog 6 #[.slice A0 o.length c0, .int .i64 z, .agg #[.slice A1 a.length c1, .slice A2 b.length c2, .slice A3 d.length c3]] w fun e w' => e = .returned (.bool true) ∧ Below w.heap.size w w' := by
  go_enter Try.func6, Try.ntmps6
  go_wp2_with (first
    | (go_at_call 9; refine (right_yes _ _ _ _ (h0.alloc _) hR).mono ?_; rintro e w' ⟨rfl, ⟨nd, rfl⟩⟩)
    | (go_at_call 10; refine (alive_calls _).mono ?_; rintro e w' ⟨rfl, hb⟩))
  go_ret
  exact ⟨rfl, ((((Since.refl _).alloc _).drewN _).step hb).b⟩

theorem heads_law (o : List Int) (z : Int) (a b d : List Int) (ha : Fit o a) (hb : Fit o b) (hd : Fit o d) : ∃ (m n : Int) (p q : Bool), cmpS o a b = m ∧ cmpS o b d = n ∧ headS o z a d = p ∧ headS o z a b = q ∧ (m ≤ 0 → n ≤ 0 → p = true → q = true) := by
  refine ⟨_, _, _, _, rfl, rfl, rfl, rfl, ?_⟩
  unfold cmpS headS
  rw [if_pos ⟨ha, hb⟩, if_pos ⟨hb, hd⟩, decide_eq_true (And.intro ha hd), decide_eq_true (And.intro ha hb)]
  simp only [Bool.true_and]
  exact fun h1 h2 h => cmpL_heads o a b d h1 h2 _ h

set_option maxHeartbeats 1000000 in
set_option maxRecDepth 100000 in
theorem heads_yes (A0 : Option Addr) (c0 : Nat) (o : List Int) (z : Int) (A1 : Option Addr) (c1 : Nat) (a : List Int) (A2 : Option Addr) (c2 : Nat) (b : List Int) (A3 : Option Addr) (c3 : Nat) (d : List Int) (w : World)
    (h0 : Sl w A0 c0 o) (h1 : Sl w A1 c1 a) (h2 : Sl w A2 c2 b) (h3 : Sl w A3 c3 d) (hR : Rt o)
    (e1 : ((a.length : Int) != (o.length : Int)) = false) (e1' : (a.length == o.length) = true) (e2 : ((b.length : Int) != (o.length : Int)) = false) (e2' : (b.length == o.length) = true) (e3 : ((d.length : Int) != (o.length : Int)) = false) (e3' : (d.length == o.length) = true) :
    Calls Try.prog 6 #[.slice A0 o.length c0, .int .i64 z, .agg #[.slice A1 a.length c1, .slice A2 b.length c2, .slice A3 d.length c3]] w fun e w' => e = .returned (.bool true) ∧ Below w.heap.size w w' := by
  have la : a.length = o.length := by simpa using e1'
  have lb : b.length = o.length := by simpa using e2'
  have ld : d.length = o.length := by simpa using e3'
  obtain ⟨m, n, p, q, em, en, ep, eq, hl⟩ := heads_law o z a b d ⟨la, hR⟩ ⟨lb, hR⟩ ⟨ld, hR⟩
  have cAB := Aside0.mk (fun w' x y t => em ▸ cmp_calls A0 c0 o A1 c1 a A2 c2 b w' x y t)
  have cBD := Aside0.mk (fun w' x y t => en ▸ cmp_calls A0 c0 o A2 c2 b A3 c3 d w' x y t)
  have hAD := Aside0.mk (fun w' x y t => ep ▸ head_calls A0 c0 o z A1 c1 a A3 c3 d w' x y t)
  have hAB := Aside0.mk (fun w' x y t => eq ▸ head_calls A0 c0 o z A1 c1 a A2 c2 b w' x y t)
  have hL := Aside0.mk hl
  clear em en ep eq hl la lb ld
  by_cases hm : m ≤ 0
  · by_cases hn : n ≤ 0
    · have hL2 := hL.out hm hn
      clear hL
      cases p
      · clear hL2
        go_enter Try.func6, Try.ntmps6
        go_wp2_with (first
          | (go_at_call 9; refine (right_yes _ _ _ _ (h0.alloc _) hR).mono ?_; rintro e w' ⟨rfl, ⟨nd, rfl⟩⟩; have hs := Since.drewN (Since.refl (w.alloc (.cells #[.slice A1 a.length c1, .slice A2 b.length c2, .slice A3 d.length c3] 23))) nd)
          | (go_at_call 11; ((with_reducible refine (cAB.out _ ?s1 ?s2 ?s3).mono ?_); (case s1 => exact Since.sl hs (h0.alloc _)); (case s2 => exact Since.sl hs (h1.alloc _)); (case s3 => exact Since.sl hs (h2.alloc _)); rintro e w1 ⟨rfl, hb⟩; have hs' := hs.step hb; clear hs hb; have hs := hs'; clear hs'; obtain ⟨k4, k5, k6, _⟩ := box3_cells hs))
          | (go_at_call 11; ((with_reducible refine (cBD.out _ ?s1 ?s2 ?s3).mono ?_); (case s1 => exact Since.sl hs (h0.alloc _)); (case s2 => exact Since.sl hs (h2.alloc _)); (case s3 => exact Since.sl hs (h3.alloc _)); rintro e w2 ⟨rfl, hb⟩; have hs' := hs.step hb; clear hs hb; have hs := hs'; clear hs'; obtain ⟨k7, k8, k9, _⟩ := box3_cells hs))
          | (go_at_call 19; ((with_reducible refine (hAD.out _ ?s1 ?s2 ?s3).mono ?_); (case s1 => exact Since.sl hs (h0.alloc _)); (case s2 => exact Since.sl hs (h1.alloc _)); (case s3 => exact Since.sl hs (h3.alloc _)); rintro e w3 ⟨rfl, hb⟩; have hs' := hs.step hb; clear hs hb; have hs := hs'; clear hs'; obtain ⟨k10, k11, k12, _⟩ := box3_cells hs))
          | (go_at_call 19; ((with_reducible refine (hAB.out _ ?s1 ?s2 ?s3).mono ?_); (case s1 => exact Since.sl hs (h0.alloc _)); (case s2 => exact Since.sl hs (h1.alloc _)); (case s3 => exact Since.sl hs (h2.alloc _)); rintro e w4 ⟨rfl, hb⟩; have hs' := hs.step hb; clear hs hb; have hs := hs'; clear hs'))
          | (go_at_call 10; refine (alive_calls _).mono ?_; rintro e w' ⟨rfl, hb⟩; have hs' := hs.step hb))
        go_ret
        exact ⟨rfl, (((Since.refl _).alloc _).trans hs').b⟩
      · have hq := hL2 rfl
        subst hq
        clear hL2
        go_enter Try.func6, Try.ntmps6
        go_wp2_with (first
          | (go_at_call 9; refine (right_yes _ _ _ _ (h0.alloc _) hR).mono ?_; rintro e w' ⟨rfl, ⟨nd, rfl⟩⟩; have hs := Since.drewN (Since.refl (w.alloc (.cells #[.slice A1 a.length c1, .slice A2 b.length c2, .slice A3 d.length c3] 23))) nd)
          | (go_at_call 11; ((with_reducible refine (cAB.out _ ?s1 ?s2 ?s3).mono ?_); (case s1 => exact Since.sl hs (h0.alloc _)); (case s2 => exact Since.sl hs (h1.alloc _)); (case s3 => exact Since.sl hs (h2.alloc _)); rintro e w1 ⟨rfl, hb⟩; have hs' := hs.step hb; clear hs hb; have hs := hs'; clear hs'; obtain ⟨k4, k5, k6, _⟩ := box3_cells hs))
          | (go_at_call 11; ((with_reducible refine (cBD.out _ ?s1 ?s2 ?s3).mono ?_); (case s1 => exact Since.sl hs (h0.alloc _)); (case s2 => exact Since.sl hs (h2.alloc _)); (case s3 => exact Since.sl hs (h3.alloc _)); rintro e w2 ⟨rfl, hb⟩; have hs' := hs.step hb; clear hs hb; have hs := hs'; clear hs'; obtain ⟨k7, k8, k9, _⟩ := box3_cells hs))
          | (go_at_call 19; ((with_reducible refine (hAD.out _ ?s1 ?s2 ?s3).mono ?_); (case s1 => exact Since.sl hs (h0.alloc _)); (case s2 => exact Since.sl hs (h1.alloc _)); (case s3 => exact Since.sl hs (h3.alloc _)); rintro e w3 ⟨rfl, hb⟩; have hs' := hs.step hb; clear hs hb; have hs := hs'; clear hs'; obtain ⟨k10, k11, k12, _⟩ := box3_cells hs))
          | (go_at_call 19; ((with_reducible refine (hAB.out _ ?s1 ?s2 ?s3).mono ?_); (case s1 => exact Since.sl hs (h0.alloc _)); (case s2 => exact Since.sl hs (h1.alloc _)); (case s3 => exact Since.sl hs (h2.alloc _)); rintro e w4 ⟨rfl, hb⟩; have hs' := hs.step hb; clear hs hb; have hs := hs'; clear hs'))
          | (go_at_call 10; refine (alive_calls _).mono ?_; rintro e w' ⟨rfl, hb⟩; have hs' := hs.step hb))
        go_ret
        exact ⟨rfl, (((Since.refl _).alloc _).trans hs').b⟩
    · skip
      go_enter Try.func6, Try.ntmps6
      go_wp2_with (first
        | (go_at_call 9; refine (right_yes _ _ _ _ (h0.alloc _) hR).mono ?_; rintro e w' ⟨rfl, ⟨nd, rfl⟩⟩; have hs := Since.drewN (Since.refl (w.alloc (.cells #[.slice A1 a.length c1, .slice A2 b.length c2, .slice A3 d.length c3] 23))) nd)
        | (go_at_call 11; ((with_reducible refine (cAB.out _ ?s1 ?s2 ?s3).mono ?_); (case s1 => exact Since.sl hs (h0.alloc _)); (case s2 => exact Since.sl hs (h1.alloc _)); (case s3 => exact Since.sl hs (h2.alloc _)); rintro e w1 ⟨rfl, hb⟩; have hs' := hs.step hb; clear hs hb; have hs := hs'; clear hs'; obtain ⟨k4, k5, k6, _⟩ := box3_cells hs))
        | (go_at_call 11; ((with_reducible refine (cBD.out _ ?s1 ?s2 ?s3).mono ?_); (case s1 => exact Since.sl hs (h0.alloc _)); (case s2 => exact Since.sl hs (h2.alloc _)); (case s3 => exact Since.sl hs (h3.alloc _)); rintro e w2 ⟨rfl, hb⟩; have hs' := hs.step hb; clear hs hb; have hs := hs'; clear hs'; obtain ⟨k7, k8, k9, _⟩ := box3_cells hs))
        | (go_at_call 19; ((with_reducible refine (hAD.out _ ?s1 ?s2 ?s3).mono ?_); (case s1 => exact Since.sl hs (h0.alloc _)); (case s2 => exact Since.sl hs (h1.alloc _)); (case s3 => exact Since.sl hs (h3.alloc _)); rintro e w3 ⟨rfl, hb⟩; have hs' := hs.step hb; clear hs hb; have hs := hs'; clear hs'; obtain ⟨k10, k11, k12, _⟩ := box3_cells hs))
        | (go_at_call 19; ((with_reducible refine (hAB.out _ ?s1 ?s2 ?s3).mono ?_); (case s1 => exact Since.sl hs (h0.alloc _)); (case s2 => exact Since.sl hs (h1.alloc _)); (case s3 => exact Since.sl hs (h2.alloc _)); rintro e w4 ⟨rfl, hb⟩; have hs' := hs.step hb; clear hs hb; have hs := hs'; clear hs'))
        | (go_at_call 10; refine (alive_calls _).mono ?_; rintro e w' ⟨rfl, hb⟩; have hs' := hs.step hb))
      go_ret
      exact ⟨rfl, (((Since.refl _).alloc _).trans hs').b⟩
  · skip
    go_enter Try.func6, Try.ntmps6
    go_wp2_with (first
      | (go_at_call 9; refine (right_yes _ _ _ _ (h0.alloc _) hR).mono ?_; rintro e w' ⟨rfl, ⟨nd, rfl⟩⟩; have hs := Since.drewN (Since.refl (w.alloc (.cells #[.slice A1 a.length c1, .slice A2 b.length c2, .slice A3 d.length c3] 23))) nd)
      | (go_at_call 11; ((with_reducible refine (cAB.out _ ?s1 ?s2 ?s3).mono ?_); (case s1 => exact Since.sl hs (h0.alloc _)); (case s2 => exact Since.sl hs (h1.alloc _)); (case s3 => exact Since.sl hs (h2.alloc _)); rintro e w1 ⟨rfl, hb⟩; have hs' := hs.step hb; clear hs hb; have hs := hs'; clear hs'; obtain ⟨k4, k5, k6, _⟩ := box3_cells hs))
      | (go_at_call 11; ((with_reducible refine (cBD.out _ ?s1 ?s2 ?s3).mono ?_); (case s1 => exact Since.sl hs (h0.alloc _)); (case s2 => exact Since.sl hs (h2.alloc _)); (case s3 => exact Since.sl hs (h3.alloc _)); rintro e w2 ⟨rfl, hb⟩; have hs' := hs.step hb; clear hs hb; have hs := hs'; clear hs'; obtain ⟨k7, k8, k9, _⟩ := box3_cells hs))
      | (go_at_call 19; ((with_reducible refine (hAD.out _ ?s1 ?s2 ?s3).mono ?_); (case s1 => exact Since.sl hs (h0.alloc _)); (case s2 => exact Since.sl hs (h1.alloc _)); (case s3 => exact Since.sl hs (h3.alloc _)); rintro e w3 ⟨rfl, hb⟩; have hs' := hs.step hb; clear hs hb; have hs := hs'; clear hs'; obtain ⟨k10, k11, k12, _⟩ := box3_cells hs))
      | (go_at_call 19; ((with_reducible refine (hAB.out _ ?s1 ?s2 ?s3).mono ?_); (case s1 => exact Since.sl hs (h0.alloc _)); (case s2 => exact Since.sl hs (h1.alloc _)); (case s3 => exact Since.sl hs (h2.alloc _)); rintro e w4 ⟨rfl, hb⟩; have hs' := hs.step hb; clear hs hb; have hs := hs'; clear hs'))
      | (go_at_call 10; refine (alive_calls _).mono ?_; rintro e w' ⟨rfl, hb⟩; have hs' := hs.step hb))
    go_ret
    exact ⟨rfl, (((Since.refl _).alloc _).trans hs').b⟩

/-- The law TupleHeads answers true. -/
theorem heads_law_calls (A0 : Option Addr) (c0 : Nat) (o : List Int) {W : World} (h0 : Sl W A0 c0 o) (_ : ∀ x ∈ o, (Lit.int .i64 x).wf = true) (_ : o.length * 8 ≤ 140737488351232) (z : Int) (_ : (Lit.int .i64 z).wf = true) (A1 : Option Addr) (c1 : Nat) (a : List Int) (h1 : Sl W A1 c1 a) (A2 : Option Addr) (c2 : Nat) (b : List Int) (h2 : Sl W A2 c2 b) (A3 : Option Addr) (c3 : Nat) (d : List Int) (h3 : Sl W A3 c3 d) (w : World) (hw : w = W) :
    Calls Try.prog 6 #[.slice A0 o.length c0, .int .i64 z, .agg #[.slice A1 a.length c1, .slice A2 b.length c2, .slice A3 d.length c3]] w fun e w' => e = .returned (.bool true) ∧ Below w.heap.size w w' := by
  subst hw
  by_cases hR : Rt o
  · by_cases e1 : a.length = o.length
    · by_cases e2 : b.length = o.length
      · by_cases e3 : d.length = o.length
        · exact heads_yes A0 c0 o z A1 c1 a A2 c2 b A3 c3 d w h0 h1 h2 h3 hR (len_yes e1).1 (len_yes e1).2 (len_yes e2).1 (len_yes e2).2 (len_yes e3).1 (len_yes e3).2
        · exact heads_len3 A0 c0 o z A1 c1 a A2 c2 b A3 c3 d w h0 h1 h2 h3 hR (len_yes e1).1 (len_yes e1).2 (len_yes e2).1 (len_yes e2).2 (len_no e3).1 (len_no e3).2
      · exact heads_len2 A0 c0 o z A1 c1 a A2 c2 b A3 c3 d w h0 h1 h2 h3 hR (len_yes e1).1 (len_yes e1).2 (len_no e2).1 (len_no e2).2
    · exact heads_len1 A0 c0 o z A1 c1 a A2 c2 b A3 c3 d w h0 h1 h2 h3 hR (len_no e1).1 (len_no e1).2
  · exact heads_no A0 c0 o z A1 c1 a A2 c2 b A3 c3 d w h0 h1 h2 h3 hR

end Go.Proofs.Ytcblhohfnmmaeaa.Tup
