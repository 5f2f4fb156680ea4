/- Own texts, joined and cut to what the claim stands on: RlFloat. -/
import Derived.WalkKit
import Derived.ProofKit
import Derived.WalkLawsBesides
import Derived.Laws.FloatArith
section
namespace Go.Proofs.YtcmllllbmgcnlaaGreat.Rl
open Ieee
set_option linter.unusedVariables false
set_option linter.unusedSimpArgs false
def nf (n : Int) : Nat := FloatKind.f64.nearest n
structure IsW (x : Nat) (n : Int) (e : Nat) (s : Bool) : Prop where
 read : double.read x = .number s (n.natAbs * 2 ^ e) (-(e : Int))
 sign : n ≠ 0 → s = decide (n < 0)
theorem d_sw : double.signWeight = 9223372036854775808 := by decide
theorem d_bin : double.binade = 4503599627370496 := by decide
theorem d_inf : double.infRung = 9218868437227405312 := by decide
theorem d_least : double.leastPlace = -1074 := by decide
theorem d_frac : double.fractionBits = 52 := by decide
theorem word_mod (s : Bool) (r : Nat) (h : r < 9223372036854775808) : double.word s r % 9223372036854775808 = r := by
 unfold Format.word
 rw [d_sw]
 cases s
 ·simp only [Bool.false_eq_true, if_false]; exact Nat.mod_eq_of_lt h
 ·simp only [if_true]; rw [Nat.add_mod_left]; exact Nat.mod_eq_of_lt h
theorem word_sign (s : Bool) (r : Nat) (h : r < 9223372036854775808) : (double.word s r / 9223372036854775808 % 2 == 1) = s := by
 unfold Format.word
 rw [d_sw]
 cases s
 ·simp only [Bool.false_eq_true, if_false]; rw [Nat.div_eq_of_lt h]; rfl
 ·simp only [if_true]; rw [Nat.add_div_left _ (by decide), Nat.div_eq_of_lt h]; rfl
theorem rung_lt {t q : Nat} (ht : t ≤ 1074) (hq : q < 9007199254740992) : t * 4503599627370496 + q < 9218868437227405312 := by omega
theorem rung_mod {t q : Nat} (h1 : 4503599627370496 ≤ q) (hq : q < 9007199254740992) : (t * 4503599627370496 + q) % 4503599627370496 = q - 4503599627370496 := by omega
theorem rung_div {t q : Nat} (h1 : 4503599627370496 ≤ q) (hq : q < 9007199254740992) : (t * 4503599627370496 + q) / 4503599627370496 = t + 1 := by omega
theorem read_word (s : Bool) (t q : Nat) (h1 : 4503599627370496 ≤ q) (h2 : q < 9007199254740992) (ht : t ≤ 1074) : double.read (double.word s (t * 4503599627370496 + q)) = .number s q (-1074 + (t : Int)) := by
 have hl := rung_lt ht h2
 have hm := rung_mod (t := t) h1 h2
 have hd := rung_div (t := t) h1 h2
 have hge : ¬ t * 4503599627370496 + q < 4503599627370496 := by omega
 obtain ⟨r, hr⟩ : ∃ r, r = t * 4503599627370496 + q := ⟨_, rfl⟩
 rw [← hr] at hl hm hd hge ⊢
 have hl2 : r < 9223372036854775808 := by omega
 unfold Format.read
 simp only [d_sw, d_bin, d_inf, d_least, word_mod s r hl2, word_sign s r hl2]
 rw [if_neg hge, if_pos hl, hm, hd]
 have e1 : 4503599627370496 + (q - 4503599627370496) = q := by omega
 rw [e1]
 rfl
theorem cut_even0 (s : Bool) (q : Nat) : Toward.even.cut s q 0 = q := by
 simp [Toward.cut, Nat.mod_one]
theorem near_word (s : Bool) (a l : Nat) (hle : a.log2 = l) (hl : l < 53) (h0 : a ≠ 0) (hq : a * 2 ^ (52 - l) < 9007199254740992) : double.nearest s a 0 = double.word s ((l + 1022) * 4503599627370496 + a * 2 ^ (52 - l)) := by
 have hlast : max ((0 : Int) + (l : Int) - ((52 : Nat) : Int)) (-1074) = (l : Int) - 52 := by omega
 have e1 : ((0 : Int) - ((l : Int) - 52)).toNat = 52 - l := by omega
 have e2 : ((l : Int) - 52 - 0).toNat = 0 := by omega
 have e4 : ((l : Int) - 52 - -1074).toNat = l + 1022 := by omega
 have e5 := Nat.min_eq_left (Nat.le_of_lt (rung_lt (t := l + 1022) (by omega) hq))
 unfold Format.nearest
 rw [if_neg h0, hle, d_frac, d_least, hlast]
 dsimp only
 rw [e1, e2, e4, cut_even0, Nat.shiftLeft_eq, d_bin, d_inf, e5]
theorem nf_read_pos (s : Bool) (a : Nat) (h0 : a ≠ 0) (h : a < 9007199254740992) : double.read (double.nearest s a 0) = .number s (a * 2 ^ (52 - a.log2)) (-((52 - a.log2 : Nat) : Int)) := by
 have hl : a.log2 < 53 := (Nat.log2_lt h0).2 h
 have hb1 : 2 ^ a.log2 ≤ a := Nat.log2_self_le h0
 have hb2 : a < 2 ^ (a.log2 + 1) := Nat.lt_log2_self
 obtain ⟨l, hle⟩ : ∃ l, a.log2 = l := ⟨_, rfl⟩
 rw [hle] at hl hb1 hb2 ⊢
 have hp : 2 ^ l * 2 ^ (52 - l) = 2 ^ 52 := by rw [← Nat.pow_add]; congr 1; omega
 have hp2 : 2 ^ (l + 1) * 2 ^ (52 - l) = 2 ^ 53 := by rw [← Nat.pow_add]; congr 1; omega
 have hk1 : 2 ^ 52 ≤ a * 2 ^ (52 - l) := by rw [← hp]; exact Nat.mul_le_mul_right _ hb1
 have hk2 : a * 2 ^ (52 - l) < 2 ^ 53 := by rw [← hp2]; exact (Nat.mul_lt_mul_right (Nat.two_pow_pos _)).2 hb2
 rw [near_word s a l hle hl h0 hk2, read_word s (l + 1022) _ hk1 hk2 (by omega)]
 have e : -1074 + ((l + 1022 : Nat) : Int) = -((52 - l : Nat) : Int) := by omega
 rw [e]
theorem nf_is (n : Int) (h : n.natAbs < 9007199254740992) : ∃ e, IsW (nf n) n e (decide (n < 0)) := by
 by_cases h0 : n.natAbs = 0
 ·have : n = 0 := by omega
  subst this
  obtain ⟨e, he⟩ : ∃ e : Nat, e = 1074 := ⟨_, rfl⟩
  refine ⟨e, ⟨?_, fun _ => rfl⟩⟩
  rw [show (0 : Int).natAbs * 2 ^ e = 0 from Nat.zero_mul _, he]
  decide
 ·exact ⟨52 - n.natAbs.log2, ⟨nf_read_pos (decide (n < 0)) n.natAbs h0 h, fun _ => rfl⟩⟩
theorem signed_mul (s : Bool) (m k : Nat) : signed s m k = signed s m 0 * (2 ^ k : Nat) := by
 unfold signed
 cases s <;> simp [Nat.shiftLeft_eq, Int.neg_mul]
theorem IsW.val {x : Nat} {n : Int} {e : Nat} {s : Bool} (h : IsW x n e s) : signed s (n.natAbs * 2 ^ e) 0 = n * (2 ^ e : Nat) := by
 unfold signed
 by_cases h0 : n = 0
 ·subst h0; cases s <;> simp
 ·rw [h.sign h0]
  by_cases hn : n < 0
  ·simp only [decide_eq_true hn, if_true, Nat.shiftLeft_zero]
   have h1 : ((n.natAbs : Nat) : Int) = -n := by omega
   rw [Int.natCast_mul, h1, Int.neg_mul, Int.neg_neg]
  ·simp only [decide_eq_false hn, Bool.false_eq_true, if_false, Nat.shiftLeft_zero]
   have h1 : ((n.natAbs : Nat) : Int) = n := by omega
   rw [Int.natCast_mul, h1]
theorem order_number {x : Nat} {s : Bool} {m : Nat} {i : Int} (hx : double.read x = .number s m i) {y : Nat} {n : Int} {e : Nat} {t : Bool} (hy : IsW y n e t) :
  double.order x y = some (compare (signed s m 0 * (2 ^ (i - min i (-(e : Int))).toNat : Nat)) (n * (2 ^ (e + (-(e : Int) - min i (-(e : Int))).toNat) : Nat))) := by
 unfold Format.order
 rw [hx, hy.read]
 simp only [Datum.order]
 rw [signed_mul s m, signed_mul t, hy.val, Int.mul_assoc, ← Int.natCast_mul, ← Nat.pow_add]
theorem cmp_scale (a b : Int) (p : Nat) (hp : 0 < p) : compare (a * (p : Int)) (b * (p : Int)) = compare a b := by
 have h : (0 : Int) < (p : Int) := by omega
 rcases Int.lt_trichotomy a b with h1 | h1 | h1
 ·rw [Int.compare_eq_lt.2 h1, Int.compare_eq_lt.2 (Int.mul_lt_mul_of_pos_right h1 h)]
 ·rw [h1]; simp
 ·rw [Int.compare_eq_gt.2 h1, Int.compare_eq_gt.2 (Int.mul_lt_mul_of_pos_right h1 h)]
theorem order_whole {x y : Nat} {a b : Int} {e f : Nat} {s t : Bool} (hx : IsW x a e s) (hy : IsW y b f t) : double.order x y = some (compare a b) := by
 rw [order_number hx.read hy, hx.val]
 congr 1
 rw [Int.mul_assoc, ← Int.natCast_mul, ← Nat.pow_add]
 have : e + (-(e : Int) - min (-(e : Int)) (-(f : Int))).toNat = f + (-(f : Int) - min (-(e : Int)) (-(f : Int))).toNat := by omega
 rw [this]
 exact cmp_scale _ _ _ (Nat.two_pow_pos _)
theorem cut_zero (s : Bool) (m k : Nat) : Toward.zero.cut s m k = m / 2 ^ k := by
 unfold Toward.cut
 simp only [Bool.toNat_false, Nat.add_zero, Nat.one_shiftLeft]
 by_cases h : k ≤ m.log2 + 2
 ·rw [Nat.min_eq_left h]
 ·have h1 : m.log2 + 2 ≤ k := by omega
  rw [Nat.min_eq_right h1]
  have h2 : m < 2 ^ (m.log2 + 1) := Nat.lt_log2_self
  have h3 : 2 ^ (m.log2 + 1) ≤ 2 ^ (m.log2 + 2) := Nat.pow_le_pow_right (by omega) (by omega)
  have h4 : 2 ^ (m.log2 + 2) ≤ 2 ^ k := Nat.pow_le_pow_right (by omega) h1
  rw [Nat.div_eq_of_lt (by omega), Nat.div_eq_of_lt (by omega)]
theorem toInt_whole {x : Nat} {n : Int} {e : Nat} {s : Bool} (h : IsW x n e s) : (double.read x).toInt .zero = some n := by
 rw [h.read]
 unfold Datum.toInt Datum.integral
 simp only
 have e1 : (-(e : Int)).toNat = 0 := by omega
 have e2 : (- -(e : Int)).toNat = e := by omega
 rw [e1, e2, cut_zero, Nat.shiftLeft_zero, Nat.mul_div_cancel _ (Nat.two_pow_pos _)]
 congr 1
 have := h.val
 unfold signed
 by_cases h0 : n = 0
 ·subst h0; cases s <;> simp
 ·rw [h.sign h0]
  by_cases hn : n < 0
  ·simp only [decide_eq_true hn, if_true, Nat.shiftLeft_zero]; omega
  ·simp only [decide_eq_false hn, Bool.false_eq_true, if_false, Nat.shiftLeft_zero]; omega
def inR (x : Nat) : Bool := (double.order x (nf (-1125899906842624)) == some .gt || double.order x (nf (-1125899906842624)) == some .eq) && (double.order x (nf 1125899906842624) == some .lt || double.order x (nf 1125899906842624) == some .eq)
theorem mag_le {m a A B ip im : Nat} (h : m * 2 ^ A ≤ a * 2 ^ B) (e : A + im = B + ip) : m * 2 ^ ip / 2 ^ im ≤ a := by
 apply Nat.div_le_of_le_mul
 have h1 : m * 2 ^ ip * 2 ^ B = m * 2 ^ A * 2 ^ im := by
  rw [Nat.mul_assoc, ← Nat.pow_add, Nat.mul_assoc, ← Nat.pow_add, e, Nat.add_comm ip B]
 have h2 : m * 2 ^ A * 2 ^ im ≤ a * 2 ^ B * 2 ^ im := Nat.mul_le_mul_right _ h
 have h3 : a * 2 ^ B * 2 ^ im = 2 ^ im * a * 2 ^ B := by rw [Nat.mul_comm (a * 2 ^ B), Nat.mul_assoc]
 have h4 : m * 2 ^ ip * 2 ^ B ≤ 2 ^ im * a * 2 ^ B := by omega
 exact Nat.le_of_mul_le_mul_right h4 (Nat.two_pow_pos _)
theorem cmp_ge {a b : Int} (h : (some (compare a b) == some Ordering.gt || some (compare a b) == some Ordering.eq) = true) : b ≤ a := by
 rcases Int.lt_trichotomy a b with h1 | h1 | h1
 ·rw [Int.compare_eq_lt.2 h1] at h; cases h
 ·omega
 ·omega
theorem cmp_le {a b : Int} (h : (some (compare a b) == some Ordering.lt || some (compare a b) == some Ordering.eq) = true) : a ≤ b := by
 rcases Int.lt_trichotomy a b with h1 | h1 | h1
 ·omega
 ·omega
 ·rw [Int.compare_eq_gt.2 h1] at h; cases h
theorem toInt_in {x : Nat} (h : inR x = true) : ∃ t, (double.read x).toInt .zero = some t ∧ -1125899906842624 ≤ t ∧ t ≤ 1125899906842624 := by
 obtain ⟨e1, w1⟩ := nf_is 1125899906842624 (by decide)
 obtain ⟨e2, w2⟩ := nf_is (-1125899906842624) (by decide)
 unfold inR at h
 cases hr : double.read x with
 | nan s f => simp [Format.order, hr, Datum.order] at h
 | infinity s => cases s <;> simp [Format.order, hr, w1.read, w2.read, Datum.order] at h
 | number s m i =>
  rw [order_number hr w2, order_number hr w1, Bool.and_eq_true] at h
  have h1 := cmp_ge h.1
  have h2 := cmp_le h.2
  unfold Datum.toInt Datum.integral
  simp only [cut_zero, Nat.shiftLeft_eq]
  refine ⟨_, rfl, ?_⟩
  unfold signed at h1 h2 ⊢
  cases s with
  | false =>
   simp only [Bool.false_eq_true, if_false, Nat.shiftLeft_zero] at h1 h2 ⊢
   have h3 := mag_le (m := m) (a := 1125899906842624) (ip := i.toNat) (im := (-i).toNat) (by
    have h4 : ((m * 2 ^ (i - min i (-(e1 : Int))).toNat : Nat) : Int) ≤ ((1125899906842624 * 2 ^ (e1 + (-(e1 : Int) - min i (-(e1 : Int))).toNat) : Nat) : Int) := by
     rw [Int.natCast_mul, Int.natCast_mul]; exact h2
    exact Int.ofNat_le.1 h4) (by omega)
   clear h1 h2 h
   obtain ⟨d, hd⟩ : ∃ d, d = m * 2 ^ i.toNat / 2 ^ (-i).toNat := ⟨_, rfl⟩
   rw [← hd] at h3 ⊢
   omega
  | true =>
   simp only [if_true, Nat.shiftLeft_zero] at h1 h2 ⊢
   have h3 := mag_le (m := m) (a := 1125899906842624) (ip := i.toNat) (im := (-i).toNat) (by
    have h4 : ((m * 2 ^ (i - min i (-(e2 : Int))).toNat : Nat) : Int) ≤ ((1125899906842624 * 2 ^ (e2 + (-(e2 : Int) - min i (-(e2 : Int))).toNat) : Nat) : Int) := by
     rw [Int.natCast_mul, Int.natCast_mul]
     rw [Int.neg_mul, Int.neg_mul] at h1
     exact Int.neg_le_neg_iff.1 h1
    exact Int.ofNat_le.1 h4) (by omega)
   clear h1 h2 h
   obtain ⟨d, hd⟩ : ∃ d, d = m * 2 ^ i.toNat / 2 ^ (-i).toNat := ⟨_, rfl⟩
   rw [← hd] at h3 ⊢
   omega
theorem inR_whole {x : Nat} {n : Int} {e : Nat} {s : Bool} (h : IsW x n e s) : inR x = decide (-1125899906842624 ≤ n ∧ n ≤ 1125899906842624) := by
 obtain ⟨e1, w1⟩ := nf_is 1125899906842624 (by decide)
 obtain ⟨e2, w2⟩ := nf_is (-1125899906842624) (by decide)
 unfold inR
 rw [order_whole h w1, order_whole h w2]
 rcases Int.lt_trichotomy n (-1125899906842624) with h1 | h1 | h1
 ·rw [Int.compare_eq_lt.2 h1, decide_eq_false (by omega)]; rfl
 ·subst h1; decide
 ·rw [Int.compare_eq_gt.2 h1]
  rcases Int.lt_trichotomy n 1125899906842624 with h2 | h2 | h2
  ·rw [Int.compare_eq_lt.2 h2, decide_eq_true (by omega)]; rfl
  ·subst h2; decide
  ·rw [Int.compare_eq_gt.2 h2, decide_eq_false (by omega)]; rfl
end Go.Proofs.YtcmllllbmgcnlaaGreat.Rl
end
