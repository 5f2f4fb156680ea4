/- The walk of the law TupleSorts. -/
import Derived.Test.YtcblhohfnmmaeaaTupC
namespace Go.Proofs.Ytcblhohfnmmaeaa.Tup
open Go.RowKit Go.Proofs.Ytcblhohfnmmaeaa.F Go.Proofs.YtcblhohfnmmaeaaW.PrintWords Go.Proofs.YtcblhohfnmmaeaaW.PrintLast Go.Proofs.YtcblhohfnmmaeaaW.PrintMore
set_option linter.unusedVariables false
set_option linter.unusedSimpArgs false

theorem right_yes (A0 : Option Addr) (c0 : Nat) (o : List Int) (w : World) (h0 : Sl w A0 c0 o) (h : Rt o) :
    Calls Try.prog 9 #[.slice A0 o.length c0] w fun e w' => e = .returned (.bool true) ∧ Drawn0 w w' := by
  have := right_calls A0 c0 o w h0
  rwa [decide_eq_true h] at this
theorem right_no (A0 : Option Addr) (c0 : Nat) (o : List Int) (w : World) (h0 : Sl w A0 c0 o) (h : ¬ Rt o) :
    Calls Try.prog 9 #[.slice A0 o.length c0] w fun e w' => e = .returned (.bool false) ∧ Drawn0 w w' := by
  have := right_calls A0 c0 o w h0
  rwa [decide_eq_false h] at this

theorem same_yes (A0 : Option Addr) (c0 : Nat) (a : List Int) (A1 : Option Addr) (c1 : Nat) (b : List Int) (w : World) (h0 : Sl w A0 c0 a) (h1 : Sl w A1 c1 b) (hn : a.length ≤ 9223372036854775806) (h : a = b) :
    Calls Try.prog 12 #[.slice A0 a.length c0, .slice A1 b.length c1] w fun e w' => e = .returned (.bool true) ∧ Drawn0 w w' := by
  have := same_calls A0 c0 a A1 c1 b w h0 h1 hn
  rwa [decide_eq_true h] at this
theorem same_no (A0 : Option Addr) (c0 : Nat) (a : List Int) (A1 : Option Addr) (c1 : Nat) (b : List Int) (w : World) (h0 : Sl w A0 c0 a) (h1 : Sl w A1 c1 b) (hn : a.length ≤ 9223372036854775806) (h : ¬ a = b) :
    Calls Try.prog 12 #[.slice A0 a.length c0, .slice A1 b.length c1] w fun e w' => e = .returned (.bool false) ∧ Drawn0 w w' := by
  have := same_calls A0 c0 a A1 c1 b w h0 h1 hn
  rwa [decide_eq_false h] at this

/-- A box of three cells, laid on top of a world. -/
def box3 (w : World) (x y z : Value) : World := w.alloc (.cells #[x, y, z] 23)
/-- What is new since a world. -/
structure Since (w0 w' : World) : Prop where
  b : Below w0.heap.size w0 w'
theorem Since.refl (w : World) : Since w w := ⟨Below.refl _ _⟩
theorem Since.drew {w w' : World} (h : Since w w') : Since w w'.drew := ⟨below_drew h.b⟩
theorem Since.drewN {w w' : World} (h : Since w w') (n : Nat) : Since w (w'.drewN n) := ⟨pw_below_drewN h.b n⟩
theorem Since.step {w w1 w2 : World} (h : Since w w1) (hb : Below w1.heap.size w1 w2) : Since w w2 := ⟨below_then h.b h.b.size hb⟩
theorem Since.alloc {w w1 : World} (h : Since w w1) (o : Obj) : Since w (w1.alloc o) := ⟨below_alloc h.b o⟩
theorem Since.sl {w w' : World} {A : Option Addr} {c : Nat} {l : List Int} (h : Since w w') (hs : Sl w A c l) : Sl w' A c l := hs.below h.b
theorem Since.trans {w w1 w2 : World} (h : Since w w1) (k : Since w1 w2) : Since w w2 := h.step k.b
theorem Since.ofDrawn {w w' : World} (h : Drawn0 w w') : Since w w' := ⟨h.below⟩

theorem box3_cells {w w' : World} {x y z : Value} (h : Since (w.alloc (.cells #[x, y, z] 23)) w') :
    w'.cell? ⟨w.heap.size, 0, none⟩ = some x ∧ w'.cell? ⟨w.heap.size, 1, none⟩ = some y ∧ w'.cell? ⟨w.heap.size, 2, none⟩ = some z ∧ Since (w.alloc (.cells #[x, y, z] 23)) w' := by
  refine ⟨?_, ?_, ?_, h⟩
  all_goals exact pw_cell_below h.b ((World.cell?_alloc_at _ _ _ _ rfl).trans rfl)

set_option maxHeartbeats 1000000 in
set_option maxRecDepth 100000 in
theorem sorts_no (A0 : Option Addr) (c0 : Nat) (o : List Int) (A1 : Option Addr) (c1 : Nat) (a : List Int) (A2 : Option Addr) (c2 : Nat) (b : List Int) (A3 : Option Addr) (c3 : Nat) (d : List Int) (w : World)
    (h0 : Sl w A0 c0 o) (h1 : Sl w A1 c1 a) (h2 : Sl w A2 c2 b) (h3 : Sl w A3 c3 d) (hR : ¬ Rt o) :
    Calls Try.prog 3 #[.slice A0 o.length c0, .agg #[.slice A1 a.length c1, .slice A2 b.length c2, .slice A3 d.length c3]] w fun e w' => e = .returned (.bool true) ∧ Below w.heap.size w w' := by
  go_enter Try.func3, Try.ntmps3
  go_wp2_with (first
    | (go_at_call 9; refine (right_no _ _ _ _ (h0.alloc _) hR).mono ?_; rintro e w' ⟨rfl, ⟨nd, rfl⟩⟩)
    | (go_at_call 10; refine (alive_calls _).mono ?_; rintro e w' ⟨rfl, hb⟩))
  go_ret
  exact ⟨rfl, ((((Since.refl _).alloc _).drewN _).step hb).b⟩

set_option maxHeartbeats 1000000 in
set_option maxRecDepth 100000 in
theorem sorts_len1 (A0 : Option Addr) (c0 : Nat) (o : List Int) (A1 : Option Addr) (c1 : Nat) (a : List Int) (A2 : Option Addr) (c2 : Nat) (b : List Int) (A3 : Option Addr) (c3 : Nat) (d : List Int) (w : World)
    (h0 : Sl w A0 c0 o) (h1 : Sl w A1 c1 a) (h2 : Sl w A2 c2 b) (h3 : Sl w A3 c3 d) (hR : Rt o) (e1 : ((a.length : Int) != (o.length : Int)) = true) (e1' : (a.length == o.length) = false) :
    Calls Try.prog 3 #[.slice A0 o.length c0, .agg #[.slice A1 a.length c1, .slice A2 b.length c2, .slice A3 d.length c3]] w fun e w' => e = .returned (.bool true) ∧ Below w.heap.size w w' := by
  go_enter Try.func3, Try.ntmps3
  go_wp2_with (first
    | (go_at_call 9; refine (right_yes _ _ _ _ (h0.alloc _) hR).mono ?_; rintro e w' ⟨rfl, ⟨nd, rfl⟩⟩)
    | (go_at_call 10; refine (alive_calls _).mono ?_; rintro e w' ⟨rfl, hb⟩))
  go_ret
  exact ⟨rfl, ((((Since.refl _).alloc _).drewN _).step hb).b⟩

set_option maxHeartbeats 1000000 in
set_option maxRecDepth 100000 in
theorem sorts_len2 (A0 : Option Addr) (c0 : Nat) (o : List Int) (A1 : Option Addr) (c1 : Nat) (a : List Int) (A2 : Option Addr) (c2 : Nat) (b : List Int) (A3 : Option Addr) (c3 : Nat) (d : List Int) (w : World)
    (h0 : Sl w A0 c0 o) (h1 : Sl w A1 c1 a) (h2 : Sl w A2 c2 b) (h3 : Sl w A3 c3 d) (hR : Rt o) (e1 : ((a.length : Int) != (o.length : Int)) = false) (e1' : (a.length == o.length) = true) (e2 : ((b.length : Int) != (o.length : Int)) = true) (e2' : (b.length == o.length) = false) :
    Calls Try.prog 3 #[.slice A0 o.length c0, .agg #[.slice A1 a.length c1, .slice A2 b.length c2, .slice A3 d.length c3]] w fun e w' => e = .returned (.bool true) ∧ Below w.heap.size w w' := by
  go_enter Try.func3, Try.ntmps3
  go_wp2_with (first
    | (go_at_call 9; refine (right_yes _ _ _ _ (h0.alloc _) hR).mono ?_; rintro e w' ⟨rfl, ⟨nd, rfl⟩⟩)
    | (go_at_call 10; refine (alive_calls _).mono ?_; rintro e w' ⟨rfl, hb⟩))
  go_ret
  exact ⟨rfl, ((((Since.refl _).alloc _).drewN _).step hb).b⟩

set_option maxHeartbeats 1000000 in
set_option maxRecDepth 100000 in
theorem sorts_len3 (A0 : Option Addr) (c0 : Nat) (o : List Int) (A1 : Option Addr) (c1 : Nat) (a : List Int) (A2 : Option Addr) (c2 : Nat) (b : List Int) (A3 : Option Addr) (c3 : Nat) (d : List Int) (w : World)
    (h0 : Sl w A0 c0 o) (h1 : Sl w A1 c1 a) (h2 : Sl w A2 c2 b) (h3 : Sl w A3 c3 d) (hR : Rt o) (e1 : ((a.length : Int) != (o.length : Int)) = false) (e1' : (a.length == o.length) = true) (e2 : ((b.length : Int) != (o.length : Int)) = false) (e2' : (b.length == o.length) = true) (e3 : ((d.length : Int) != (o.length : Int)) = true) (e3' : (d.length == o.length) = false) :
    Calls Try.prog 3 #[.slice A0 o.length c0, .agg #[.slice A1 a.length c1, .slice A2 b.length c2, .slice A3 d.length c3]] w fun e w' => e = .returned (.bool true) ∧ Below w.heap.size w w' := by
  go_enter Try.func3, Try.ntmps3
  go_wp2_with (first
    | (go_at_call 9; refine (right_yes _ _ _ _ (h0.alloc _) hR).mono ?_; rintro e w' ⟨rfl, ⟨nd, rfl⟩⟩)
    | (go_at_call 10; refine (alive_calls _).mono ?_; rintro e w' ⟨rfl, hb⟩))
  go_ret
  exact ⟨rfl, ((((Since.refl _).alloc _).drewN _).step hb).b⟩

theorem sorts_law (o a b d : List Int) (ha : Fit o a) (hb : Fit o b) (hd : Fit o d) : ∃ m n k : Int, cmpS o a b = m ∧ cmpS o b d = n ∧ cmpS o a d = k ∧ cmpS o b a = -m ∧ (-1 ≤ m ∧ m ≤ 1) ∧ (m = 0 ↔ a = b) ∧ (0 < m ∨ 0 < n ∨ k ≤ 0) := by
  refine ⟨_, _, _, rfl, rfl, rfl, ?_, ?_, ?_, ?_⟩
  · unfold cmpS; rw [if_pos ⟨hb, ha⟩, if_pos ⟨ha, hb⟩]; exact cmpL_flip o a b
  · unfold cmpS; rw [if_pos ⟨ha, hb⟩]; have := cmpL_range o a b; omega
  · unfold cmpS; rw [if_pos ⟨ha, hb⟩, cmpL_zero]
    exact ⟨fun h => same_of_order ha hb h, fun h => by subst h; intros; rfl⟩
  · unfold cmpS; rw [if_pos ⟨ha, hb⟩, if_pos ⟨hb, hd⟩, if_pos ⟨ha, hd⟩]
    have := cmpL_trans o a b d
    omega

set_option maxHeartbeats 1000000 in
set_option maxRecDepth 100000 in
theorem sorts_yes (A0 : Option Addr) (c0 : Nat) (o : List Int) (A1 : Option Addr) (c1 : Nat) (a : List Int) (A2 : Option Addr) (c2 : Nat) (b : List Int) (A3 : Option Addr) (c3 : Nat) (d : List Int) (w : World)
    (h0 : Sl w A0 c0 o) (h1 : Sl w A1 c1 a) (h2 : Sl w A2 c2 b) (h3 : Sl w A3 c3 d) (hR : Rt o)
    (e1 : ((a.length : Int) != (o.length : Int)) = false) (e1' : (a.length == o.length) = true)
    (e2 : ((b.length : Int) != (o.length : Int)) = false) (e2' : (b.length == o.length) = true)
    (e3 : ((d.length : Int) != (o.length : Int)) = false) (e3' : (d.length == o.length) = true) :
    Calls Try.prog 3 #[.slice A0 o.length c0, .agg #[.slice A1 a.length c1, .slice A2 b.length c2, .slice A3 d.length c3]] w fun e w' => e = .returned (.bool true) ∧ Below w.heap.size w w' := by
  have la : a.length = o.length := by simpa using e1'
  have lb : b.length = o.length := by simpa using e2'
  have ld : d.length = o.length := by simpa using e3'
  obtain ⟨m, n, k, em, en, ek, ef, ⟨m0, m1⟩, hz, ht⟩ := sorts_law o a b d ⟨la, hR⟩ ⟨lb, hR⟩ ⟨ld, hR⟩
  have small : a.length ≤ 9223372036854775806 := by have := hR.1; omega
  have cAB := Aside0.mk (fun w' x y z => em ▸ cmp_calls A0 c0 o A1 c1 a A2 c2 b w' x y z)
  have cBD := Aside0.mk (fun w' x y z => en ▸ cmp_calls A0 c0 o A2 c2 b A3 c3 d w' x y z)
  have cAD := Aside0.mk (fun w' x y z => ek ▸ cmp_calls A0 c0 o A1 c1 a A3 c3 d w' x y z)
  have cBA := Aside0.mk (fun w' x y z => ef ▸ cmp_calls A0 c0 o A2 c2 b A1 c1 a w' x y z)
  have hZ := Aside0.mk hz
  clear em en ek ef hz la lb ld
  go_enter Try.func3, Try.ntmps3
  go_wp2_with (first
    | (go_at_call 9; refine (right_yes _ _ _ _ (h0.alloc _) hR).mono ?_; rintro e w' ⟨rfl, ⟨nd, rfl⟩⟩))
  have hS : Since (w.alloc (.cells #[.slice A1 a.length c1, .slice A2 b.length c2, .slice A3 d.length c3] 23)) ((w.alloc (.cells #[.slice A1 a.length c1, .slice A2 b.length c2, .slice A3 d.length c3] 23)).drewN nd).drew := ((Since.refl _).drewN _).drew
  go_region_held3 (fun w' => w'.cell? ⟨w.heap.size, 0, none⟩ = some (.slice A1 a.length c1) ∧ w'.cell? ⟨w.heap.size, 1, none⟩ = some (.slice A2 b.length c2) ∧ w'.cell? ⟨w.heap.size, 2, none⟩ = some (.slice A3 d.length c3) ∧ Since (w.alloc (.cells #[.slice A1 a.length c1, .slice A2 b.length c2, .slice A3 d.length c3] 23)) w')
    (first | exact box3_cells hS | (go_split_ands; exact box3_cells (Since.step (by assumption) (by assumption))))
    (first
    | (go_at_call 11; ((with_reducible refine (cAB.out _ ?s1 ?s2 ?s3).mono ?_); (case s1 => (go_split_ands; exact Since.sl (by assumption) (h0.alloc _))); (case s2 => (go_split_ands; exact Since.sl (by assumption) (h1.alloc _))); (case s3 => (go_split_ands; exact Since.sl (by assumption) (h2.alloc _))); rintro e w1 ⟨rfl, hb⟩))
    | (go_at_call 11; ((with_reducible refine (cBD.out _ ?s1 ?s2 ?s3).mono ?_); (case s1 => (go_split_ands; exact Since.sl (by assumption) (h0.alloc _))); (case s2 => (go_split_ands; exact Since.sl (by assumption) (h2.alloc _))); (case s3 => (go_split_ands; exact Since.sl (by assumption) (h3.alloc _))); rintro e w1 ⟨rfl, hb⟩))
    | (go_at_call 11; ((with_reducible refine (cAD.out _ ?s1 ?s2 ?s3).mono ?_); (case s1 => (go_split_ands; exact Since.sl (by assumption) (h0.alloc _))); (case s2 => (go_split_ands; exact Since.sl (by assumption) (h1.alloc _))); (case s3 => (go_split_ands; exact Since.sl (by assumption) (h3.alloc _))); rintro e w1 ⟨rfl, hb⟩)))
  go_split_ands
  rename Since _ _ => hs1
  obtain ⟨k0, k1, k2, _⟩ := box3_cells hs1
  by_cases hab : a = b
  · have hm := hZ.out.2 hab
    have hm0 : (m == 0) = true := by simpa using hm
    have hm1 : m ≤ 0 := by omega
    have HAB := Aside0.mk hab
    clear hm hab
    by_cases p : 0 < n
    · skip
      go_wp2_with (first
        | (go_at_call 11; ((with_reducible refine (cBA.out _ (hs1.sl (h0.alloc _)) (hs1.sl (h2.alloc _)) (hs1.sl (h1.alloc _))).mono ?_); rintro e w4 ⟨rfl, hb4⟩; have hs4 := hs1.step hb4; obtain ⟨k4, k5, k6, _⟩ := box3_cells hs4))
        | (go_at_call 12; ((with_reducible refine (same_yes A1 c1 a A2 c2 b _ (hs4.sl (h1.alloc _)) (hs4.sl (h2.alloc _)) small HAB.out).mono ?_); rintro e w5 ⟨rfl, ⟨nd5, rfl⟩⟩; have hs5 := hs4.drewN nd5))
        | (go_at_call 10; refine (alive_calls _).mono ?_; rintro e w' ⟨rfl, hb⟩))
      go_ret
      exact ⟨rfl, (((Since.refl _).alloc _).trans (hs5.step hb)).b⟩
    · have q : k ≤ 0 := by omega
      go_wp2_with (first
        | (go_at_call 11; ((with_reducible refine (cBA.out _ (hs1.sl (h0.alloc _)) (hs1.sl (h2.alloc _)) (hs1.sl (h1.alloc _))).mono ?_); rintro e w4 ⟨rfl, hb4⟩; have hs4 := hs1.step hb4; obtain ⟨k4, k5, k6, _⟩ := box3_cells hs4))
        | (go_at_call 12; ((with_reducible refine (same_yes A1 c1 a A2 c2 b _ (hs4.sl (h1.alloc _)) (hs4.sl (h2.alloc _)) small HAB.out).mono ?_); rintro e w5 ⟨rfl, ⟨nd5, rfl⟩⟩; have hs5 := hs4.drewN nd5))
        | (go_at_call 10; refine (alive_calls _).mono ?_; rintro e w' ⟨rfl, hb⟩))
      go_ret
      exact ⟨rfl, (((Since.refl _).alloc _).trans (hs5.step hb)).b⟩
  · have hm : ¬ m = 0 := fun h => hab (hZ.out.1 h)
    have hm0 : (m == 0) = false := by simpa using hm
    by_cases p : 0 < m
    · skip
      go_wp2_with (first
        | (go_at_call 11; ((with_reducible refine (cBA.out _ (hs1.sl (h0.alloc _)) (hs1.sl (h2.alloc _)) (hs1.sl (h1.alloc _))).mono ?_); rintro e w4 ⟨rfl, hb4⟩; have hs4 := hs1.step hb4; obtain ⟨k4, k5, k6, _⟩ := box3_cells hs4))
        | (go_at_call 12; ((with_reducible refine (same_no A1 c1 a A2 c2 b _ (hs4.sl (h1.alloc _)) (hs4.sl (h2.alloc _)) small hab).mono ?_); rintro e w5 ⟨rfl, ⟨nd5, rfl⟩⟩; have hs5 := hs4.drewN nd5))
        | (go_at_call 10; refine (alive_calls _).mono ?_; rintro e w' ⟨rfl, hb⟩))
      go_ret
      exact ⟨rfl, (((Since.refl _).alloc _).trans (hs5.step hb)).b⟩
    · by_cases p2 : 0 < n
      · skip
        go_wp2_with (first
          | (go_at_call 11; ((with_reducible refine (cBA.out _ (hs1.sl (h0.alloc _)) (hs1.sl (h2.alloc _)) (hs1.sl (h1.alloc _))).mono ?_); rintro e w4 ⟨rfl, hb4⟩; have hs4 := hs1.step hb4; obtain ⟨k4, k5, k6, _⟩ := box3_cells hs4))
          | (go_at_call 12; ((with_reducible refine (same_no A1 c1 a A2 c2 b _ (hs4.sl (h1.alloc _)) (hs4.sl (h2.alloc _)) small hab).mono ?_); rintro e w5 ⟨rfl, ⟨nd5, rfl⟩⟩; have hs5 := hs4.drewN nd5))
          | (go_at_call 10; refine (alive_calls _).mono ?_; rintro e w' ⟨rfl, hb⟩))
        go_ret
        exact ⟨rfl, (((Since.refl _).alloc _).trans (hs5.step hb)).b⟩
      · have q : k ≤ 0 := by omega
        go_wp2_with (first
          | (go_at_call 11; ((with_reducible refine (cBA.out _ (hs1.sl (h0.alloc _)) (hs1.sl (h2.alloc _)) (hs1.sl (h1.alloc _))).mono ?_); rintro e w4 ⟨rfl, hb4⟩; have hs4 := hs1.step hb4; obtain ⟨k4, k5, k6, _⟩ := box3_cells hs4))
          | (go_at_call 12; ((with_reducible refine (same_no A1 c1 a A2 c2 b _ (hs4.sl (h1.alloc _)) (hs4.sl (h2.alloc _)) small hab).mono ?_); rintro e w5 ⟨rfl, ⟨nd5, rfl⟩⟩; have hs5 := hs4.drewN nd5))
          | (go_at_call 10; refine (alive_calls _).mono ?_; rintro e w' ⟨rfl, hb⟩))
        go_ret
        exact ⟨rfl, (((Since.refl _).alloc _).trans (hs5.step hb)).b⟩

theorem len_yes {x o : List Int} (h : x.length = o.length) : ((x.length : Int) != (o.length : Int)) = false ∧ (x.length == o.length) = true := by simp [h]
theorem len_no {x o : List Int} (h : ¬ x.length = o.length) : ((x.length : Int) != (o.length : Int)) = true ∧ (x.length == o.length) = false := by
  refine ⟨?_, by simp [h]⟩
  rw [bne_iff_ne]; omega

/-- The law TupleSorts answers true. -/
theorem sorts_calls (A0 : Option Addr) (c0 : Nat) (o : List Int) (A1 : Option Addr) (c1 : Nat) (a : List Int) (A2 : Option Addr) (c2 : Nat) (b : List Int) (A3 : Option Addr) (c3 : Nat) (d : List Int) (w : World)
    (h0 : Sl w A0 c0 o) (h1 : Sl w A1 c1 a) (h2 : Sl w A2 c2 b) (h3 : Sl w A3 c3 d) :
    Calls Try.prog 3 #[.slice A0 o.length c0, .agg #[.slice A1 a.length c1, .slice A2 b.length c2, .slice A3 d.length c3]] w fun e w' => e = .returned (.bool true) ∧ Below w.heap.size w w' := by
  by_cases hR : Rt o
  · by_cases e1 : a.length = o.length
    · by_cases e2 : b.length = o.length
      · by_cases e3 : d.length = o.length
        · exact sorts_yes A0 c0 o A1 c1 a A2 c2 b A3 c3 d w h0 h1 h2 h3 hR (len_yes e1).1 (len_yes e1).2 (len_yes e2).1 (len_yes e2).2 (len_yes e3).1 (len_yes e3).2
        · exact sorts_len3 A0 c0 o A1 c1 a A2 c2 b A3 c3 d w h0 h1 h2 h3 hR (len_yes e1).1 (len_yes e1).2 (len_yes e2).1 (len_yes e2).2 (len_no e3).1 (len_no e3).2
      · exact sorts_len2 A0 c0 o A1 c1 a A2 c2 b A3 c3 d w h0 h1 h2 h3 hR (len_yes e1).1 (len_yes e1).2 (len_no e2).1 (len_no e2).2
    · exact sorts_len1 A0 c0 o A1 c1 a A2 c2 b A3 c3 d w h0 h1 h2 h3 hR (len_no e1).1 (len_no e1).2
  · exact sorts_no A0 c0 o A1 c1 a A2 c2 b A3 c3 d w h0 h1 h2 h3 hR
theorem sorts_law_calls (A0 : Option Addr) (c0 : Nat) (o : List Int) {W : World} (h0 : Sl W A0 c0 o) (_ : ∀ x ∈ o, (Lit.int .i64 x).wf = true) (_ : o.length * 8 ≤ 140737488351232) (A1 : Option Addr) (c1 : Nat) (a : List Int) (h1 : Sl W A1 c1 a) (A2 : Option Addr) (c2 : Nat) (b : List Int) (h2 : Sl W A2 c2 b) (A3 : Option Addr) (c3 : Nat) (d : List Int) (h3 : Sl W A3 c3 d) (w : World) (hw : w = W) :
    Calls Try.prog 3 #[.slice A0 o.length c0, .agg #[.slice A1 a.length c1, .slice A2 b.length c2, .slice A3 d.length c3]] w fun e w' => e = .returned (.bool true) ∧ Below w.heap.size w w' := by
  subst hw
  exact sorts_calls A0 c0 o A1 c1 a A2 c2 b A3 c3 d w h0 h1 h2 h3

end Go.Proofs.Ytcblhohfnmmaeaa.Tup
