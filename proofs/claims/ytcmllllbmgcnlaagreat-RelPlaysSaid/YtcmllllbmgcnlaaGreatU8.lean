/- Own texts, joined and cut to what the claim stands on: TupA. -/
import Derived.Test.YtcmllllbmgcnlaaGreatU5
import Derived.Test.YtcmllllbmgcnlaaGreatU6
import Derived.Test.YtcmllllbmgcnlaaGreatU7
section
namespace Go.Proofs.YtcmllllbmgcnlaaGreat.Tup
open Go.RowKit Go.Proofs.YtcmllllbmgcnlaaGreat.G Go.Proofs.YtcmllllbmgcnlaaGreatW.PrintWords Go.Proofs.YtcmllllbmgcnlaaGreatW.PrintLast Go.Proofs.YtcmllllbmgcnlaaGreatW.PrintMore
set_option linter.unusedVariables false
set_option linter.unusedSimpArgs false
def Rt (o : List Int) : Prop := o.length ≤ 8 ∧ (∀ c ∈ o, 0 ≤ c ∧ c < (o.length : Int)) ∧ o.Nodup
instance decRt (o : List Int) : Decidable (Rt o) := by unfold Rt; infer_instance
theorem rd_at {xs pre rest : List Int} {c : Int} (h : xs = pre ++ c :: rest) : rd xs (pre.length : Int) = c := by
 subst h; simp [rd]
theorem wrap_nat (n : Nat) (h : n < 9223372036854775807) : wrap64 ((n : Int) + 1) = ((n + 1 : Nat) : Int) := by
 unfold wrap64; omega
set_option maxRecDepth 100000 in
theorem bits_all : ∀ m : Fin 256, ∀ c : Fin 8, (Go.bits .and .i64 (shr .i64 (m.val : Int) (c.val : Int)) 1 = 1 ↔ m.val.testBit c.val = true) ∧ Go.bits .or .i64 (m.val : Int) (shl .i64 1 (c.val : Int)) = ((m.val ||| 2 ^ c.val : Nat) : Int) := by decide +kernel
theorem bit_test (m : Nat) (hm : m < 256) (c : Nat) (hc : c < 8) : (Go.bits .and .i64 (shr .i64 (m : Int) (c : Int)) 1 = 1) ↔ m.testBit c = true :=
 (bits_all ⟨m, hm⟩ ⟨c, hc⟩).1
theorem bit_set (m : Nat) (hm : m < 256) (c : Nat) (hc : c < 8) : Go.bits .or .i64 (m : Int) (shl .i64 1 (c : Int)) = ((m ||| 2 ^ c : Nat) : Int) :=
 (bits_all ⟨m, hm⟩ ⟨c, hc⟩).2
theorem set_lt (m : Nat) (hm : m < 256) (c : Nat) (hc : c < 8) : m ||| 2 ^ c < 256 := by
 have h2 : 2 ^ c < 2 ^ 8 := Nat.pow_lt_pow_right (by decide) hc
 exact Nat.or_lt_two_pow (n := 8) hm h2
theorem test_set (m c j : Nat) : (m ||| 2 ^ c).testBit j = true ↔ (m.testBit j = true ∨ j = c) := by
 rw [Nat.testBit_or, Bool.or_eq_true, Nat.testBit_two_pow, decide_eq_true_iff]
 exact ⟨fun h => h.imp id Eq.symm, fun h => h.imp id Eq.symm⟩
theorem right_loop (o : List Int) (ho : o.length ≤ 8) : ∀ (rest pre : List Int) (m : Nat) (k : Nat), o = pre ++ rest → m < 256 → (∀ j : Nat, j < 8 → (m.testBit j = true ↔ (j : Int) ∈ pre)) → (∀ c ∈ pre, 0 ≤ c ∧ c < (o.length : Int)) → pre.Nodup → rest.length < k →
  tuple_Right.l0 k o (m : Int) o (o.length : Int) (pre.length : Int) = some (decide (Rt o)) := by
 intro rest
 induction rest with
 | nil =>
  intro pre m k e hm hb hr hn hk
  obtain ⟨k, rfl⟩ : ∃ q, k = q + 1 := ⟨k - 1, by omega⟩
  have e' : pre = o := by simpa using e.symm
  subst e'
  have hR : Rt pre := ⟨ho, hr, hn⟩
  simp only [tuple_Right.l0]
  rw [if_neg (by omega), decide_eq_true hR]
 | cons c rest ih =>
  intro pre m k e hm hb hr hn hk
  simp only [List.length_cons] at hk
  obtain ⟨k, rfl⟩ : ∃ q, k = q + 1 := ⟨k - 1, by omega⟩
  have hl : o.length = pre.length + (rest.length + 1) := by rw [e]; simp
  have hat := rd_at e
  have hmem : c ∈ o := by rw [e]; simp
  simp only [tuple_Right.l0]
  rw [if_pos (by omega), if_pos (by omega), if_pos (by omega), hat]
  by_cases h1 : c < 0
  ·rw [if_pos h1, decide_eq_false (fun h => by have := h.2.1 c hmem; omega)]
  rw [if_neg h1]
  by_cases h2 : c ≥ (o.length : Int)
  ·rw [if_pos h2, decide_eq_false (fun h => by have := h.2.1 c hmem; omega)]
  rw [if_neg h2, if_pos (by omega)]
  obtain ⟨d, rfl⟩ : ∃ d : Nat, c = (d : Int) := ⟨c.toNat, by omega⟩
  have hd : d < 8 := by omega
  by_cases h3 : m.testBit d = true
  ·rw [if_pos ((bit_test m hm d hd).2 h3)]
   have hin := (hb d hd).1 h3
   rw [decide_eq_false]
   intro h
   have := h.2.2
   rw [e, List.nodup_append] at this
   exact this.2.2 _ hin _ (by simp) rfl
  ·rw [if_neg (fun h => h3 ((bit_test m hm d hd).1 h)), bit_set m hm d hd, wrap_nat _ (by omega)]
   have hnin : (d : Int) ∉ pre := fun h => h3 ((hb d hd).2 h)
   have key := ih (pre ++ [(d : Int)]) (m ||| 2 ^ d) k (by rw [e]; simp) (set_lt m hm d hd) (fun j hj => by
    rw [test_set, hb j hj]; simp [Int.ofNat_inj]) (fun c hc => by
     rcases List.mem_append.1 hc with h | h
     ·exact hr c h
     ·simp at h; subst h; omega) (by
     rw [List.nodup_append]; refine ⟨hn, by simp, ?_⟩
     intro a ha b hb' hab; simp at hb'; subst hb'; subst hab; exact hnin ha) (by omega)
   simpa using key
theorem right_is (k : Nat) (o : List Int) (hk : o.length < k) : tuple_Right.f k o = some (decide (Rt o)) := by
 unfold tuple_Right.f
 by_cases h : (o.length : Int) > 8
 ·rw [if_pos h, decide_eq_false (fun hR => by have := hR.1; omega)]
 ·rw [if_neg h]
  have := right_loop o (by omega) o [] 0 k (by simp) (by decide) (fun j _ => by simp) (fun c hc => by simp at hc) (by simp) hk
  simpa using this
theorem rdL_at {xs pre rest : List (List Int)} {c : List Int} (h : xs = pre ++ c :: rest) : rd_L1 xs (pre.length : Int) = c := by
 subst h; simp [rd_L1]
theorem fit_loop (o : List Int) (ts : List (List Int)) (hn : ts.length < 9223372036854775807) : ∀ (rest pre : List (List Int)) (k : Nat), ts = pre ++ rest → o.length + rest.length + 1 < k →
  tuple_fit.l0 k o ts (ts.length : Int) (pre.length : Int) = some (decide ((∀ t ∈ rest, t.length = o.length) ∧ Rt o)) := by
 intro rest
 induction rest with
 | nil =>
  intro pre k e hk
  obtain ⟨k, rfl⟩ : ∃ q, k = q + 1 := ⟨k - 1, by omega⟩
  have e' : pre = ts := by simpa using e.symm
  subst e'
  simp only [tuple_fit.l0]
  rw [if_neg (by omega), right_is _ _ (by omega)]
  simp
 | cons t rest ih =>
  intro pre k e hk
  simp only [List.length_cons] at hk
  obtain ⟨k, rfl⟩ : ∃ q, k = q + 1 := ⟨k - 1, by omega⟩
  have hl : ts.length = pre.length + (rest.length + 1) := by rw [e]; simp
  have hat := rdL_at e
  simp only [tuple_fit.l0]
  rw [if_pos (by omega), if_pos (by omega), if_pos (by omega), hat]
  by_cases h : (t.length : Int) = (o.length : Int)
  ·rw [if_pos h, wrap_nat _ (by omega)]
   have h' : t.length = o.length := by omega
   have key := ih (pre ++ [t]) k (by rw [e]; simp) (by omega)
   simp only [List.length_append, List.length_cons, List.length_nil, Nat.zero_add] at key
   rw [key]
   simp [h']
  ·rw [if_neg h]
   have h' : ¬ t.length = o.length := by omega
   simp [h']
theorem fit2 (k : Nat) (o a b : List Int) (hk : o.length + 3 < k) : tuple_fit.f k o [a, b] = some (decide (a.length = o.length ∧ b.length = o.length ∧ Rt o)) := by
 have := fit_loop o [a, b] (by simp) [a, b] [] k rfl (by simp; omega)
 simpa [tuple_fit.f, and_assoc] using this
def cmpL : List Int → List Int → List Int → Int
 | [], _, _ => 0
 | c :: o, a, b => if rd a c < rd b c then -1 else if rd a c > rd b c then 1 else cmpL o a b
def Fit (o a : List Int) : Prop := a.length = o.length ∧ Rt o
instance decFit (o a : List Int) : Decidable (Fit o a) := by unfold Fit; infer_instance
def cmpS (o a b : List Int) : Int := if Fit o a ∧ Fit o b then cmpL o a b else 0
theorem compare_is (x y : Int) : cmp_Compare_int.f x y = some (if x < y then -1 else if x > y then 1 else 0) := by
 unfold cmp_Compare_int.f cmp_isNaN_int.f
 simp
 split
 ·rfl
 ·split <;> rfl
theorem cmp_loop (o a b : List Int) (ho : o.length ≤ 8) (hr : ∀ c ∈ o, 0 ≤ c ∧ c < (o.length : Int)) (ha : a.length = o.length) (hb : b.length = o.length) : ∀ (rest pre : List Int) (k : Nat), o = pre ++ rest → rest.length < k →
  tuple_Cmp.l0 k a b o (o.length : Int) (pre.length : Int) = some (cmpL rest a b) := by
 intro rest
 induction rest with
 | nil =>
  intro pre k e hk
  obtain ⟨k, rfl⟩ : ∃ q, k = q + 1 := ⟨k - 1, by omega⟩
  have e' : pre = o := by simpa using e.symm
  subst e'
  simp only [tuple_Cmp.l0]
  rw [if_neg (by omega)]; rfl
 | cons c rest ih =>
  intro pre k e hk
  simp only [List.length_cons] at hk
  obtain ⟨k, rfl⟩ : ∃ q, k = q + 1 := ⟨k - 1, by omega⟩
  have hl : o.length = pre.length + (rest.length + 1) := by rw [e]; simp
  have hat := rd_at e
  have hmem := hr c (by rw [e]; simp)
  simp only [tuple_Cmp.l0]
  rw [if_pos (by omega), if_pos (by omega), if_pos (by omega), hat, if_pos (by omega), if_pos (by omega), if_pos (by omega), compare_is]
  simp only [Option.bind_some, cmpL]
  by_cases h1 : rd a c < rd b c
  ·rw [if_pos h1, if_pos h1, if_neg (by decide)]
  rw [if_neg h1, if_neg h1]
  by_cases h2 : rd a c > rd b c
  ·rw [if_pos h2, if_pos h2, if_neg (by decide)]
  rw [if_neg h2, if_neg h2, if_pos rfl, wrap_nat _ (by omega)]
  have key := ih (pre ++ [c]) k (by rw [e]; simp) (by omega)
  simpa using key
theorem cmp_is (k : Nat) (o a b : List Int) (hk : o.length + 3 < k) : tuple_Cmp.f k o a b = some (cmpS o a b) := by
 unfold tuple_Cmp.f cmpS
 rw [fit2 k o a b hk]
 simp only [Option.bind_some]
 by_cases h : Fit o a ∧ Fit o b
 ·rw [if_pos h, if_pos (decide_eq_true ⟨h.1.1, h.2.1, h.1.2⟩)]
  have := cmp_loop o a b h.1.2.1 h.1.2.2.1 h.1.1 h.2.1 o [] k (by simp) (by omega)
  simpa using this
 ·rw [if_neg h, if_neg]
  simp only [decide_eq_true_eq]
  intro g; exact h ⟨⟨g.1, g.2.2⟩, g.2.1, g.2.2⟩
theorem same_loop (a b : List Int) (hn : a.length ≤ 9223372036854775806) (hl : a.length = b.length) : ∀ (d i k : Nat), a.length - i = d → i ≤ a.length → d < k → (∀ j, j < i → a.getD j 0 = b.getD j 0) →
  vestryref04_Same.l0 k a b (i : Int) = some (decide (a = b)) := by
 intro d
 induction d with
 | zero =>
  intro i k hd hi hk h
  obtain ⟨k, rfl⟩ : ∃ q, k = q + 1 := ⟨k - 1, by omega⟩
  simp only [vestryref04_Same.l0]
  rw [if_neg (by omega), decide_eq_true]
  apply List.ext_getElem hl
  intro j h1 h2
  have := h j (by omega)
  simpa [h1, h2] using this
 | succ d ih =>
  intro i k hd hi hk h
  obtain ⟨k, rfl⟩ : ∃ q, k = q + 1 := ⟨k - 1, by omega⟩
  simp only [vestryref04_Same.l0]
  rw [if_pos (by omega), if_pos (by omega), if_pos (by omega)]
  by_cases e : rd a (i : Int) = rd b (i : Int)
  ·rw [if_pos e, wrap_nat _ (by omega)]
   refine ih (i + 1) k (by omega) (by omega) (by omega) (fun j hj => ?_)
   by_cases hji : j = i
   ·subst hji; simpa [rd] using e
   ·exact h j (by omega)
  ·rw [if_neg e, decide_eq_false]
   intro he; subst he; exact e rfl
theorem same_is (k : Nat) (a b : List Int) (hn : a.length ≤ 9223372036854775806) (hk : a.length < k) : vestryref04_Same.f k a b = some (decide (a = b)) := by
 unfold vestryref04_Same.f
 by_cases h : (a.length : Int) = (b.length : Int)
 ·rw [if_pos h]
  exact same_loop a b hn (by omega) a.length 0 k (by omega) (by omega) hk (fun j hj => by omega)
 ·rw [if_neg h, decide_eq_false]
  intro e; subst e; exact h rfl
end Go.Proofs.YtcmllllbmgcnlaaGreat.Tup
end
