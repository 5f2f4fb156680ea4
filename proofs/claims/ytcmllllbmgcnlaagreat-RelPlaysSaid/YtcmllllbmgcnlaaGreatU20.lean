/- Own texts, joined and cut to what the claim stands on: TupD. -/
import Derived.Test.YtcmllllbmgcnlaaGreatU11
section
namespace Go.Proofs.YtcmllllbmgcnlaaGreat.Tup
open Go.RowKit Go.Proofs.YtcmllllbmgcnlaaGreat.G Go.Proofs.YtcmllllbmgcnlaaGreatW.PrintWords Go.Proofs.YtcmllllbmgcnlaaGreatW.PrintLast Go.Proofs.YtcmllllbmgcnlaaGreatW.PrintMore
set_option linter.unusedVariables false
set_option linter.unusedSimpArgs false
def orL : List Int → Nat → Nat
 | [], m => m
 | c :: o, m => orL o (m ||| 2 ^ c.toNat)
def popN (m : Nat) : Nat := ((List.range 8).filter fun j => m.testBit j).length
set_option maxRecDepth 100000 in
theorem pop_all : ∀ m : Fin 256, (bits_OnesCount.f (IntKind.u64.wrap (m.val : Int)) = some ((popN m.val : Nat) : Int)) ∧ (∀ c : Fin 8, m.val.testBit c.val = false → popN (m.val ||| 2 ^ c.val) = popN m.val + 1) ∧ (∀ n : Fin 9, m.val < 2 ^ n.val → popN m.val ≤ n.val) := by decide +kernel
theorem pop_is (m : Nat) (h : m < 256) : bits_OnesCount.f (IntKind.u64.wrap (m : Int)) = some ((popN m : Nat) : Int) := (pop_all ⟨m, h⟩).1
theorem pop_set (m : Nat) (h : m < 256) (c : Nat) (hc : c < 8) (ht : m.testBit c = false) : popN (m ||| 2 ^ c) = popN m + 1 := (pop_all ⟨m, h⟩).2.1 ⟨c, hc⟩ ht
theorem pop_le (m : Nat) (h : m < 256) (n : Nat) (hn : n < 9) (hm : m < 2 ^ n) : popN m ≤ n := (pop_all ⟨m, h⟩).2.2 ⟨n, hn⟩ hm
theorem orL_lt (o : List Int) (hr : ∀ c ∈ o, 0 ≤ c ∧ c < 8) (m : Nat) (hm : m < 256) : orL o m < 256 := by
 induction o generalizing m with
 | nil => exact hm
 | cons c o ih =>
  have h := hr c (by simp)
  exact ih (fun x hx => hr x (by simp [hx])) _ (set_lt m hm c.toNat (by omega))
theorem pop_orL (o : List Int) (hr : ∀ c ∈ o, 0 ≤ c ∧ c < 8) (hn : o.Nodup) (m : Nat) (hm : m < 256) (hd : ∀ c ∈ o, m.testBit c.toNat = false) : popN (orL o m) = popN m + o.length := by
 induction o generalizing m with
 | nil => rfl
 | cons c o ih =>
  have h := hr c (by simp)
  rw [List.nodup_cons] at hn
  have hs := set_lt m hm c.toNat (by omega)
  rw [orL, ih (fun x hx => hr x (by simp [hx])) hn.2 _ hs (fun x hx => by
   have hx8 := hr x (by simp [hx])
   have hne : x ≠ c := fun e => hn.1 (e ▸ hx)
   have := hd x (by simp [hx])
   cases ht : (m ||| 2 ^ c.toNat).testBit x.toNat with
   | false => rfl
   | true =>
    rcases (test_set m c.toNat x.toNat).1 ht with h1 | h1
    ·rw [this] at h1; cases h1
    ·exact absurd (by omega : x = c) hne), pop_set m hm c.toNat (by omega) (hd c (by simp))]
  simp only [List.length_cons]; omega
def coverS (o : List Int) (cols : Int) : Int × Bool :=
 if Rt o ∧ 0 ≤ cols ∧ cols < 2 ^ o.length then
  if orL (o.take (popN cols.toNat)) 0 = cols.toNat then (((popN cols.toNat : Nat) : Int), true) else (0, false)
 else (0, false)
theorem shr_zero (cols : Int) (h0 : 0 ≤ cols) (n : Nat) (hn : n ≤ 8) : (shr .i64 cols (n : Int) != 0) = !decide (cols < 2 ^ n) := by
 have hb : min ((n : Int)).toNat IntKind.i64.bits = n := by
  rw [Int.toNat_natCast]; have : IntKind.i64.bits = 64 := rfl; omega
 unfold shr
 rw [hb]
 have hp : (0 : Int) < 2 ^ n := Int.pow_pos (by decide)
 by_cases h : cols < 2 ^ n
 ·rw [Int.ediv_eq_zero_of_lt h0 h]; simp [h]
 ·have : cols / 2 ^ n ≠ 0 := by
   intro e
   have h1 := Int.lt_ediv_add_one_mul_self cols hp
   rw [e] at h1; simp at h1; exact h h1
  simp [h, this]
theorem cover_loop (cols n : Int) (tk : List Int) (hr : ∀ c ∈ tk, 0 ≤ c ∧ c < 8) (h8 : tk.length ≤ 8) : ∀ (rest pre : List Int) (m k : Nat), tk = pre ++ rest → m < 256 → rest.length < k →
  tuple_Cover.l0 k cols n (m : Int) tk (tk.length : Int) (pre.length : Int) = some (if ((orL rest m : Nat) : Int) = cols then (n, true) else (0, false)) := by
 intro rest
 induction rest with
 | nil =>
  intro pre m k e hm hk
  obtain ⟨k, rfl⟩ : ∃ q, k = q + 1 := ⟨k - 1, by omega⟩
  have e' : pre = tk := by simpa using e.symm
  subst e'
  simp only [tuple_Cover.l0]
  rw [if_neg (by omega)]
  have e0 : orL [] m = m := rfl
  rw [e0]
  by_cases h : (m : Int) = cols
  ·rw [if_pos h, if_pos h]
  ·rw [if_neg h, if_neg h]
 | cons c rest ih =>
  intro pre m k e hm hk
  simp only [List.length_cons] at hk
  obtain ⟨k, rfl⟩ : ∃ q, k = q + 1 := ⟨k - 1, by omega⟩
  have hl : tk.length = pre.length + (rest.length + 1) := by rw [e]; simp
  have hat := rd_at e
  have hmem := hr c (by rw [e]; simp)
  obtain ⟨d, rfl⟩ : ∃ d : Nat, c = (d : Int) := ⟨c.toNat, by omega⟩
  simp only [tuple_Cover.l0]
  rw [if_pos (by omega), if_pos (by omega), if_pos (by omega), hat, if_pos (by omega), bit_set m hm d (by omega), wrap_nat _ (by omega)]
  have key := ih (pre ++ [(d : Int)]) (m ||| 2 ^ d) k (by rw [e]; simp) (set_lt m hm d (by omega)) (by omega)
  simp only [List.length_append, List.length_cons, List.length_nil, Nat.zero_add] at key
  exact key
theorem pow_le_8 (n : Nat) (h : n ≤ 8) : (2 : Int) ^ n ≤ 256 := by
 have h1 : (2 : Nat) ^ n ≤ 256 := Nat.pow_le_pow_right (n := 2) (i := n) (j := 8) (by decide) h
 have e : ((2 ^ n : Nat) : Int) = (2 : Int) ^ n := by simp
 omega
theorem cover_is (k : Nat) (o : List Int) (cols : Int) (hk : o.length + 12 < k) : tuple_Cover.f k o cols = some (coverS o cols) := by
 obtain ⟨k, rfl⟩ : ∃ q, k = q + 1 := ⟨k - 1, by omega⟩
 unfold tuple_Cover.f coverS
 rw [right_is _ _ (by omega)]
 simp only [Option.bind_some, decide_eq_true_eq]
 by_cases hR : Rt o
 ·rw [if_pos hR]
  by_cases h0 : cols < 0
  ·rw [if_pos h0, if_neg (by omega)]
   simp only [tuple_Cover.j0]; rfl
  ·rw [if_neg h0, shr_zero cols (by omega) o.length hR.1]
   by_cases h1 : cols < 2 ^ o.length
   ·have h256 := pow_le_8 o.length hR.1
    obtain ⟨m, rfl⟩ : ∃ m : Nat, cols = (m : Int) := ⟨cols.toNat, by omega⟩
    have hm : m < 256 := by omega
    have hm2 : m < 2 ^ o.length := by exact_mod_cast h1
    have hpl := pop_le m hm o.length (by have := hR.1; omega) hm2
    rw [if_pos ⟨hR, by omega, h1⟩, decide_eq_true h1]
    simp only [tuple_Cover.j0, Bool.not_true, pop_is m hm, Option.bind_some, Int.toNat_natCast]
    rw [if_neg (by simp), if_pos (by omega), if_pos (by omega)]
    have hr8 : ∀ c ∈ o.take (popN m), 0 ≤ c ∧ c < 8 := fun c hc => by
     have := hR.2.1 c (List.mem_of_mem_take hc); have := hR.1; omega
    have := cover_loop (m : Int) (popN m : Int) (o.take (popN m)) hr8 (by have := hR.1; simp; omega) (o.take (popN m)) [] 0 k (by simp) (by decide) (by have := hR.1; simp; omega)
    simp only [List.length_nil] at this
    refine Eq.trans this ?_
    congr 1
    by_cases hq : orL (o.take (popN m)) 0 = m
    ·rw [if_pos (by rw [hq]), if_pos hq]
    ·rw [if_neg (by omega), if_neg hq]
   ·rw [if_neg (fun h => h1 h.2.2), decide_eq_false h1]
    simp only [tuple_Cover.j0, Bool.not_false]; rfl
 ·rw [if_neg hR, if_neg (fun h => hR h.1)]
  simp only [tuple_Cover.j0]; rfl
theorem has_loop (l : List Int) (x : Int) (hn : l.length ≤ 9223372036854775806) : ∀ (rest pre : List Int) (k : Nat), l = pre ++ rest → rest.length < k →
  vestryref04_Has.l0 k l x (pre.length : Int) = some (decide (x ∈ rest)) := by
 intro rest
 induction rest with
 | nil =>
  intro pre k e hk
  obtain ⟨k, rfl⟩ : ∃ q, k = q + 1 := ⟨k - 1, by omega⟩
  have e' : pre = l := by simpa using e.symm
  subst e'
  simp only [vestryref04_Has.l0]
  rw [if_neg (by omega)]; simp
 | cons c rest ih =>
  intro pre k e hk
  simp only [List.length_cons] at hk
  obtain ⟨k, rfl⟩ : ∃ q, k = q + 1 := ⟨k - 1, by omega⟩
  have hl : l.length = pre.length + (rest.length + 1) := by rw [e]; simp
  have hat := rd_at e
  simp only [vestryref04_Has.l0]
  rw [if_pos (by omega), if_pos (by omega), hat]
  by_cases h : c = x
  ·rw [if_pos h]; simp [h]
  ·rw [if_neg h, wrap_nat _ (by omega)]
   have key := ih (pre ++ [c]) k (by rw [e]; simp) (by omega)
   simp only [List.length_append, List.length_cons, List.length_nil, Nat.zero_add] at key
   rw [key]
   simp [show ¬ x = c from fun e => h e.symm]
theorem has_is (k : Nat) (l : List Int) (x : Int) (hn : l.length ≤ 9223372036854775806) (hk : l.length < k) : vestryref04_Has.f k l x = some (decide (x ∈ l)) := by
 have := has_loop l x hn l [] k (by simp) hk
 simpa [vestryref04_Has.f] using this
theorem rright_loop (o : List Int) (hn : o.length ≤ 9223372036854775806) : ∀ (d i k : Nat), o.length - i = d → i ≤ o.length → o.length + d + 1 < k → (∀ j : Nat, j < i → (j : Int) ∈ o) →
  vestryref04_Right.l0 k o (i : Int) = some (decide (Rt o)) := by
 intro d
 induction d with
 | zero =>
  intro i k hd hi hk h
  obtain ⟨k, rfl⟩ : ∃ q, k = q + 1 := ⟨k - 1, by omega⟩
  simp only [vestryref04_Right.l0]
  rw [if_neg (by omega)]
  congr 1
  by_cases h8 : o.length ≤ 8
  ·rw [decide_eq_true (by omega : (o.length : Int) ≤ 8), decide_eq_true (Rt.of_all h8 (fun j hj => h j (by omega)))]
  ·rw [decide_eq_false (by omega : ¬ (o.length : Int) ≤ 8), decide_eq_false (fun hR : Rt o => h8 hR.1)]
 | succ d ih =>
  intro i k hd hi hk h
  obtain ⟨k, rfl⟩ : ∃ q, k = q + 1 := ⟨k - 1, by omega⟩
  simp only [vestryref04_Right.l0]
  rw [if_pos (by omega), has_is k o i hn (by omega)]
  simp only [Option.bind_some, decide_eq_true_eq]
  by_cases hin : (i : Int) ∈ o
  ·rw [if_pos hin, wrap_nat _ (by omega)]
   refine ih (i + 1) k (by omega) (by omega) (by omega) (fun j hj => ?_)
   by_cases hji : j = i
   ·subst hji; exact hin
   ·exact h j (by omega)
  ·rw [if_neg hin, decide_eq_false (fun hR : Rt o => hin (hR.all _ (by omega) (by omega)))]
theorem rright_is (k : Nat) (o : List Int) (hn : o.length ≤ 9223372036854775806) (hk : 2 * o.length + 1 < k) : vestryref04_Right.f k o = some (decide (Rt o)) :=
 rright_loop o hn o.length 0 k (by omega) (by omega) (by omega) (fun j hj => by omega)
theorem fits_is (k : Nat) (o a b : List Int) (hn : o.length ≤ 9223372036854775806) (hk : 2 * o.length + 1 < k) : vestryref04_fits.f k o a b = some (decide (Fit o a ∧ Fit o b)) := by
 unfold vestryref04_fits.f
 rw [rright_is k o hn hk]
 simp only [Option.bind_some, decide_eq_true_eq]
 by_cases hR : Rt o
 ·rw [if_pos hR]
  by_cases h1 : (a.length : Int) = (o.length : Int)
  ·rw [if_pos h1]
   have h1' : a.length = o.length := by omega
   by_cases h2 : b.length = o.length
   ·simp [Fit, h1', h2, hR]
   ·simp [Fit, h1', h2, hR]; omega
  ·rw [if_neg h1, decide_eq_false (fun h => h1 (by rw [h.1.1]))]
 ·rw [if_neg hR, decide_eq_false (fun h => hR h.1.2)]
theorem rcmp_loop (o a b : List Int) (ho : o.length ≤ 8) (hr : ∀ c ∈ o, 0 ≤ c ∧ c < (o.length : Int)) (ha : a.length = o.length) (hb : b.length = o.length) : ∀ (rest pre : List Int) (k : Nat), o = pre ++ rest → rest.length < k →
  vestryref04_Cmp.l0 k o a b (pre.length : Int) = some (cmpL rest a b) := by
 intro rest
 induction rest with
 | nil =>
  intro pre k e hk
  obtain ⟨k, rfl⟩ : ∃ q, k = q + 1 := ⟨k - 1, by omega⟩
  have e' : pre = o := by simpa using e.symm
  subst e'
  simp only [vestryref04_Cmp.l0]
  rw [if_neg (by omega)]; rfl
 | cons c rest ih =>
  intro pre k e hk
  simp only [List.length_cons] at hk
  obtain ⟨k, rfl⟩ : ∃ q, k = q + 1 := ⟨k - 1, by omega⟩
  have hl : o.length = pre.length + (rest.length + 1) := by rw [e]; simp
  have hat := rd_at e
  have hmem := hr c (by rw [e]; simp)
  simp only [vestryref04_Cmp.l0]
  rw [if_pos (by omega), if_pos (by omega), hat, if_pos (by omega), if_pos (by omega), if_pos (by omega)]
  simp only [cmpL]
  by_cases h1 : rd a c < rd b c
  ·rw [if_pos h1, if_pos h1]
  rw [if_neg h1, if_neg h1]
  by_cases h2 : rd a c > rd b c
  ·rw [if_pos h2, if_pos h2]
  rw [if_neg h2, if_neg h2, wrap_nat _ (by omega)]
  have key := ih (pre ++ [c]) k (by rw [e]; simp) (by omega)
  simpa using key
theorem rcmp_is (k : Nat) (o a b : List Int) (hn : o.length ≤ 9223372036854775806) (hk : 2 * o.length + 1 < k) : vestryref04_Cmp.f k o a b = some (cmpS o a b) := by
 unfold vestryref04_Cmp.f cmpS
 rw [fits_is k o a b hn hk]
 simp only [Option.bind_some, decide_eq_true_eq]
 by_cases h : Fit o a ∧ Fit o b
 ·rw [if_pos h, if_pos h]
  have := rcmp_loop o a b h.1.2.1 h.1.2.2.1 h.1.1 h.2.1 o [] k (by simp) (by omega)
  simpa using this
 ·rw [if_neg h, if_neg h]
end Go.Proofs.YtcmllllbmgcnlaaGreat.Tup
end
