/- Own texts, joined and cut to what the claim stands on: RlNote, RlNote2, RlNote3. -/
import Derived.Test.YtcmllllbmgcnlaaGreatU1
import Derived.Test.YtcmllllbmgcnlaaGreatU5
import Derived.Test.YtcmllllbmgcnlaaGreatU6
import Derived.Test.YtcmllllbmgcnlaaGreatU7
import Derived.Test.YtcmllllbmgcnlaaGreatU8
section
namespace Go.Proofs.YtcmllllbmgcnlaaGreat.Rl
open Go.RowKit Go.Proofs.YtcmllllbmgcnlaaGreat.G Go.Proofs.YtcmllllbmgcnlaaGreat.Tup Go.Proofs.YtcmllllbmgcnlaaGreatW.PrintWords Go.Proofs.YtcmllllbmgcnlaaGreatW.PrintLast Go.Proofs.YtcmllllbmgcnlaaGreatW.PrintMore
set_option linter.unusedVariables false
set_option linter.unusedSimpArgs false
def tI (x : Nat) : Int := ((Ieee.double.read x).toInt .zero).getD 0
def wholeF (x : Nat) : Int × Bool := if inR x = true then (tI x, Ieee.double.order (nf (tI x)) x == some .eq) else (0, false)
def heightF (x y : Nat) : Int × Int × Bool := if (wholeF x).2 && (wholeF y).2 then ((wholeF x).1, (wholeF y).1, true) else (0, 0, false)
theorem low_bits : (14055734437023318016 : Nat) = nf (-1125899906842624) := by decide
theorem high_bits : (4832362400168542208 : Nat) = nf 1125899906842624 := by decide
theorem tI_in {x : Nat} (h : inR x = true) : (Ieee.double.read x).toInt .zero = some (tI x) ∧ -1125899906842624 ≤ tI x ∧ tI x ≤ 1125899906842624 := by
 obtain ⟨t, ht, h1, h2⟩ := toInt_in h
 unfold tI
 rw [ht]
 exact ⟨rfl, h1, h2⟩
theorem conv_int {x : Nat} (h : inR x = true) (w : World) : (convert 22 3 (.float .f64 x)).run Tryz.prog w = .ok (.int .i64 (tI x)) w := by
 obtain ⟨h1, h2, h3⟩ := tI_in h
 refine run_convert_float_int w 22 3 .f64 .i64 x (tI x) (by rw [Tryz.underlying22]; rfl) Tryz.underlying3 ?_
 unfold floatToIntVal
 have e : FloatKind.decode .f64 x = Ieee.double.read x := rfl
 rw [e, h1]
 have e2 : IntKind.min .i64 ≤ tI x ∧ tI x ≤ IntKind.max .i64 := by
  have a1 : IntKind.min .i64 = -9223372036854775808 := by decide
  have a2 : IntKind.max .i64 = 9223372036854775807 := by decide
  omega
 simp only [e2, and_self, if_true]
theorem inR_lits (x : Nat) : inR x = ((FloatKind.f64.format.order x 14055734437023318016 == some .gt || FloatKind.f64.format.order x 14055734437023318016 == some .eq) && (FloatKind.f64.format.order x 4832362400168542208 == some .lt || FloatKind.f64.format.order x 4832362400168542208 == some .eq)) := by
 unfold inR
 rw [← low_bits, ← high_bits]
 rfl
set_option maxHeartbeats 8000000 in
set_option maxRecDepth 100000 in
theorem whole_calls (W : World) (x : Nat) : Calls Tryz.prog 43 #[.float .f64 x] W fun e w' => e = .returned (.tuple #[.int .i64 (wholeF x).1, .bool (wholeF x).2]) ∧ W = w' := by
  have hl := inR_lits x
  cases hin : inR x
  · have hF := Aside0.mk (show wholeF x = (0, false) by unfold wholeF; rw [hin]; rfl)
    rw [hin] at hl
    clear hin
    rcases h1 : FloatKind.f64.format.order x 14055734437023318016 with _ | (_ | _ | _) <;> rcases h2 : FloatKind.f64.format.order x 4832362400168542208 with _ | (_ | _ | _) <;> first
      | (exfalso; rw [h1, h2] at hl; exact absurd hl (by decide))
      | (clear hl
         go_enter Tryz.func43, Tryz.ntmps43
         go_wp2
         go_ret2
         rw [hF.out]
         exact ⟨rfl, rfl⟩)
  · have hC := conv_int hin
    have hF := Aside0.mk (show wholeF x = (tI x, Ieee.double.order (nf (tI x)) x == some .eq) by unfold wholeF; rw [hin]; rfl)
    rw [hin] at hl
    clear hin
    rcases h1 : FloatKind.f64.format.order x 14055734437023318016 with _ | (_ | _ | _) <;> rcases h2 : FloatKind.f64.format.order x 4832362400168542208 with _ | (_ | _ | _) <;> first
      | (exfalso; rw [h1, h2] at hl; exact absurd hl (by decide))
      | (clear hl
         go_enter Tryz.func43, Tryz.ntmps43
         go_wp2
         go_ret2
         rw [hF.out]
         exact ⟨rfl, rfl⟩)
set_option maxHeartbeats 8000000 in
set_option maxRecDepth 100000 in
theorem part_calls (W : World) (x : Nat) : Calls Tryz.prog 42 #[.float .f64 x] W fun e w' => e = .returned (.tuple #[.int .i64 (wholeF x).1, .bool (wholeF x).2]) ∧ W = w' := by
  have hl := inR_lits x
  cases hin : inR x
  · have hF := Aside0.mk (show wholeF x = (0, false) by unfold wholeF; rw [hin]; rfl)
    rw [hin] at hl
    clear hin
    rcases h1 : FloatKind.f64.format.order x 14055734437023318016 with _ | (_ | _ | _) <;> rcases h2 : FloatKind.f64.format.order x 4832362400168542208 with _ | (_ | _ | _) <;> first
      | (exfalso; rw [h1, h2] at hl; exact absurd hl (by decide))
      | (clear hl
         go_enter Tryz.func42, Tryz.ntmps42
         go_wp2
         go_ret2
         rw [hF.out]
         exact ⟨rfl, rfl⟩)
  · have hC := conv_int hin
    have hF := Aside0.mk (show wholeF x = (tI x, Ieee.double.order (nf (tI x)) x == some .eq) by unfold wholeF; rw [hin]; rfl)
    rw [hin] at hl
    clear hin
    rcases h1 : FloatKind.f64.format.order x 14055734437023318016 with _ | (_ | _ | _) <;> rcases h2 : FloatKind.f64.format.order x 4832362400168542208 with _ | (_ | _ | _) <;> first
      | (exfalso; rw [h1, h2] at hl; exact absurd hl (by decide))
      | (clear hl
         go_enter Tryz.func42, Tryz.ntmps42
         go_wp2
         go_ret2
         rw [hF.out]
         exact ⟨rfl, rfl⟩)
set_option maxHeartbeats 4000000 in
set_option maxRecDepth 100000 in
theorem height_core (W : World) (x y : Nat) (a1 b1 : Int) (a2 b2 : Bool) (H1 : Aside0 (Calls Tryz.prog 43 #[.float .f64 x] W fun e w' => e = .returned (.tuple #[.int .i64 a1, .bool a2]) ∧ W = w')) (H2 : Aside0 (Calls Tryz.prog 43 #[.float .f64 y] W fun e w' => e = .returned (.tuple #[.int .i64 b1, .bool b2]) ∧ W = w')) :
  Calls Tryz.prog 17 #[.complex .f64 x y] W fun e w' => e = .returned (if a2 && b2 then .tuple #[.int .i64 a1, .int .i64 b1, .bool true] else .tuple #[.int .i64 0, .int .i64 0, .bool false]) ∧ W = w' := by
 cases a2 <;> cases b2 <;> simp only [Bool.false_and, Bool.and_false, Bool.true_and, Bool.and_true, Bool.false_eq_true, if_false, if_true] <;>
  (go_enter Tryz.func17, Tryz.ntmps17
   go_wp2_with (go_at_call 43; go_loud (first | ((with_reducible refine H1.out.mono ?_); rintro e w1 ⟨rfl, hw1⟩; subst hw1) | ((with_reducible refine H2.out.mono ?_); rintro e w1 ⟨rfl, hw1⟩; subst hw1)))
   go_ret3
   exact ⟨rfl, rfl⟩)
theorem height_calls (W : World) (x y : Nat) : Calls Tryz.prog 17 #[.complex .f64 x y] W fun e w' => e = .returned (.tuple #[.int .i64 (heightF x y).1, .int .i64 (heightF x y).2.1, .bool (heightF x y).2.2]) ∧ W = w' := by
 refine (height_core W x y _ _ _ _ ⟨whole_calls W x⟩ ⟨whole_calls W y⟩).mono ?_
 rintro e w' ⟨rfl, hw⟩
 refine ⟨?_, hw⟩
 unfold heightF
 cases (wholeF x).2 <;> cases (wholeF y).2 <;> rfl
set_option maxHeartbeats 4000000 in
set_option maxRecDepth 100000 in
theorem rheight_core (W : World) (x y : Nat) (a1 b1 : Int) (a2 b2 : Bool) (H1 : Aside0 (Calls Tryz.prog 42 #[.float .f64 x] W fun e w' => e = .returned (.tuple #[.int .i64 a1, .bool a2]) ∧ W = w')) (H2 : Aside0 (Calls Tryz.prog 42 #[.float .f64 y] W fun e w' => e = .returned (.tuple #[.int .i64 b1, .bool b2]) ∧ W = w')) :
  Calls Tryz.prog 14 #[.float .f64 x, .float .f64 y] W fun e w' => e = .returned (if a2 && b2 then .tuple #[.int .i64 a1, .int .i64 b1, .bool true] else .tuple #[.int .i64 0, .int .i64 0, .bool false]) ∧ W = w' := by
 cases a2 <;> cases b2 <;> simp only [Bool.false_and, Bool.and_false, Bool.true_and, Bool.and_true, Bool.false_eq_true, if_false, if_true] <;>
  (go_enter Tryz.func14, Tryz.ntmps14
   go_wp2_with (go_at_call 42; go_loud (first | ((with_reducible refine H1.out.mono ?_); rintro e w1 ⟨rfl, hw1⟩; subst hw1) | ((with_reducible refine H2.out.mono ?_); rintro e w1 ⟨rfl, hw1⟩; subst hw1)))
   go_ret3
   exact ⟨rfl, rfl⟩)
theorem rheight_calls (W : World) (x y : Nat) : Calls Tryz.prog 14 #[.float .f64 x, .float .f64 y] W fun e w' => e = .returned (.tuple #[.int .i64 (heightF x y).1, .int .i64 (heightF x y).2.1, .bool (heightF x y).2.2]) ∧ W = w' := by
 refine (rheight_core W x y _ _ _ _ ⟨part_calls W x⟩ ⟨part_calls W y⟩).mono ?_
 rintro e w' ⟨rfl, hw⟩
 refine ⟨?_, hw⟩
 unfold heightF
 cases (wholeF x).2 <;> cases (wholeF y).2 <;> rfl
def rightB (n : Int) : Bool := !decide (n < -1125899906842624) && !decide (n > 1125899906842624)
theorem rightB_iff {n : Int} (h : rightB n = true) : -1125899906842624 ≤ n ∧ n ≤ 1125899906842624 := by
 unfold rightB at h
 simp at h
 omega
theorem wholeF_nf {n : Int} (h : rightB n = true) : wholeF (nf n) = (n, true) := by
 obtain ⟨h1, h2⟩ := rightB_iff h
 obtain ⟨e, hw⟩ := nf_is n (by omega)
 have h3 := inR_whole hw
 rw [decide_eq_true (And.intro h1 h2)] at h3
 have h4 : tI (nf n) = n := by unfold tI; rw [toInt_whole hw]; rfl
 unfold wholeF
 rw [if_pos h3, h4, order_whole hw hw]
 have h5 : compare n n = Ordering.eq := by rw [Int.compare_eq_eq]
 rw [h5]
 rfl
theorem heightF_nf {h k : Int} (hh : rightB h = true) (hk : rightB k = true) : heightF (nf h) (nf k) = (h, k, true) := by
 unfold heightF
 rw [wholeF_nf hh, wholeF_nf hk]
 rfl
def noteF (h k : Int) : (Nat × Nat) × Int := if rightB h && rightB k then ((nf h, nf k), 0) else ((0, 0), 1)
set_option maxHeartbeats 8000000 in
set_option maxRecDepth 100000 in
theorem note_calls (W : World) (h k : Int) : Calls Tryz.prog 18 #[.int .i64 h, .int .i64 k] W fun e w' => e = .returned (.tuple #[.complex .f64 (noteF h k).1.1 (noteF h k).1.2, .int .i64 (noteF h k).2]) ∧ W = w' := by
  have hN : noteF h k = if rightB h && rightB k then ((nf h, nf k), 0) else ((0, 0), 1) := rfl
  unfold rightB at hN
  have hH := height_calls W (nf h) (nf k)
  have hR := fun (a : rightB h = true) (b : rightB k = true) => heightF_nf a b
  unfold rightB at hR
  obtain ⟨F, hF⟩ : ∃ F, F = heightF (nf h) (nf k) := ⟨_, rfl⟩
  obtain ⟨N, hNN⟩ : ∃ N, N = noteF h k := ⟨_, rfl⟩
  rw [← hF] at hH hR
  rw [← hNN] at hN ⊢
  clear hF hNN
  obtain ⟨f1, f2, f3⟩ := F
  cases c1 : decide (h < -1125899906842624) <;> cases c2 : decide (h > 1125899906842624) <;> cases c3 : decide (k < -1125899906842624) <;> cases c4 : decide (k > 1125899906842624) <;> cases f3 <;> rw [c1, c2, c3, c4] at hN hR <;> first
    | (exfalso; have := hR rfl rfl; simp at this; done)
    | (subst hN
       clear hR
       have HH := Aside0.mk hH
       clear hH
       go_enter Tryz.func18, Tryz.ntmps18
       go_wp2_with (go_at_call 17; go_loud (refine HH.out.mono ?_; rintro e w1 ⟨rfl, hw1⟩; subst hw1))
       go_ret2
       exact ⟨rfl, rfl⟩)
def betterB (a b c d : Int) : Bool := decide (a < c) || (decide (a = c) && decide (b < d))
theorem order_nf {a b : Int} (ha : rightB a = true) (hb : rightB b = true) : FloatKind.f64.format.order (nf a) (nf b) = some (compare a b) := by
 obtain ⟨h1, h2⟩ := rightB_iff ha
 obtain ⟨h3, h4⟩ := rightB_iff hb
 obtain ⟨e, hw⟩ := nf_is a (by omega)
 obtain ⟨f, hv⟩ := nf_is b (by omega)
 exact order_whole hw hv
set_option maxHeartbeats 8000000 in
set_option maxRecDepth 100000 in
theorem better_calls (W : World) (a b c d : Int) (ha : rightB a = true) (hb : rightB b = true) (hc : rightB c = true) (hd : rightB d = true) :
  Calls Tryz.prog 40 #[.complex .f64 (nf a) (nf b), .complex .f64 (nf c) (nf d)] W fun e w' => e = .returned (.bool (betterB a b c d)) ∧ W = w' := by
 have o1 := order_nf ha hc
 have o2 := order_nf hb hd
 have hB : betterB a b c d = (decide (a < c) || (decide (a = c) && decide (b < d))) := rfl
 obtain ⟨R, hR⟩ : ∃ R, R = betterB a b c d := ⟨_, rfl⟩
 rw [← hR] at hB ⊢
 clear hR ha hb hc hd
 have x1 : FloatKind.f64.format.order (nf a) (nf c) = some .lt ∧ decide (a < c) = true ∧ decide (a = c) = false ∨ FloatKind.f64.format.order (nf a) (nf c) = some .eq ∧ decide (a < c) = false ∧ decide (a = c) = true ∨ FloatKind.f64.format.order (nf a) (nf c) = some .gt ∧ decide (a < c) = false ∧ decide (a = c) = false := by
  rw [o1]
  rcases Int.lt_trichotomy a c with h | h | h
  ·exact .inl ⟨by rw [Int.compare_eq_lt.2 h], decide_eq_true h, decide_eq_false (by omega)⟩
  ·exact .inr (.inl ⟨by rw [Int.compare_eq_eq.2 h], decide_eq_false (by omega), decide_eq_true h⟩)
  ·exact .inr (.inr ⟨by rw [Int.compare_eq_gt.2 h], decide_eq_false (by omega), decide_eq_false (by omega)⟩)
 have x2 : FloatKind.f64.format.order (nf b) (nf d) = some .lt ∧ decide (b < d) = true ∨ FloatKind.f64.format.order (nf b) (nf d) = some .eq ∧ decide (b < d) = false ∨ FloatKind.f64.format.order (nf b) (nf d) = some .gt ∧ decide (b < d) = false := by
  rw [o2]
  rcases Int.lt_trichotomy b d with h | h | h
  ·exact .inl ⟨by rw [Int.compare_eq_lt.2 h], decide_eq_true h⟩
  ·exact .inr (.inl ⟨by rw [Int.compare_eq_eq.2 h], decide_eq_false (by omega)⟩)
  ·exact .inr (.inr ⟨by rw [Int.compare_eq_gt.2 h], decide_eq_false (by omega)⟩)
 clear o1 o2
 rcases x1 with ⟨p1, p2, p3⟩ | ⟨p1, p2, p3⟩ | ⟨p1, p2, p3⟩ <;> rcases x2 with ⟨r1, r2⟩ | ⟨r1, r2⟩ | ⟨r1, r2⟩ <;>
  (rw [p2, p3, r2] at hB
   subst hB
   clear p2 p3 r2
   go_enter Tryz.func40, Tryz.ntmps40
   go_wp2
   go_ret
   exact ⟨rfl, rfl⟩)
end Go.Proofs.YtcmllllbmgcnlaaGreat.Rl
end
