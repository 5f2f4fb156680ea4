/- The plain law of the tuple package: what the printed functions come to, in plain lists. The plain law of the tuple package, second part: lists that hold each number once; turned tuples; covers. What the tuple package's functions answer in this seat, as contracts: in plain lists, with no rounds. Words on worlds. The builtin copy into a row whose block is known whole: what the row is then; nothing else has turned. Rows in the words of ownsRow. slices.Insert at tuples: one value into a row of the call's own. slices.Insert at nodes: one value into a row of the call's own. slices.Clone at tuples: a row of the call's own with the same cells. slices.Clone at nodes: a row of the call's own with the same cells. slices.Clone at numbers: a row of the call's own with the same cells. The plain law of the tree: nodes, what they have in order, and what a tuple more is. Nodes in memory; the search within a node. A set in memory; what reads it: ok, fits, Has, Len. Rows of raw values and the rows of tuples, of nodes that they are. What a tree with a tuple more is: plain. -/
import Derived.Test.YtcmllllbmgcnlaaFAll
import Derived.Lib.Overlaps
import Derived.Lib.AppendZeros
import Derived.Lib.AppendZerosOnto
import Derived.Lib.JoinLaws
import Derived.Lib.SliceRun
import Derived.Laws.CopyRow
import Derived.Laws.CopyOwn
import Derived.Laws.Externs
import Derived.Laws.NewBlocks
import Derived.Deep.RegionLaw
import Derived.WalkSpells
import Derived.Lib.LazyBuf
namespace Go.Proofs.Ytcmllllbmgcnlaa.Tup
open Go.RowKit Go.Proofs.Ytcmllllbmgcnlaa.F Go.Proofs.YtcmllllbmgcnlaaW.PrintWords Go.Proofs.YtcmllllbmgcnlaaW.PrintLast Go.Proofs.YtcmllllbmgcnlaaW.PrintMore
set_option linter.unusedVariables false
set_option linter.unusedSimpArgs false

/-- An order is right. -/
def Rt (o : List Int) : Prop := o.length ≤ 8 ∧ (∀ c ∈ o, 0 ≤ c ∧ c < (o.length : Int)) ∧ o.Nodup
instance decRt (o : List Int) : Decidable (Rt o) := by unfold Rt; infer_instance

theorem rd_at {xs pre rest : List Int} {c : Int} (h : xs = pre ++ c :: rest) : rd xs (pre.length : Int) = c := by
  subst h; simp [rd]
theorem wrap_nat (n : Nat) (h : n < 9223372036854775807) : wrap64 ((n : Int) + 1) = ((n + 1 : Nat) : Int) := by
  unfold wrap64; omega

set_option maxRecDepth 100000 in
theorem bits_all : ∀ m : Fin 256, ∀ c : Fin 8, (Go.bits .and .i64 (shr .i64 (m.val : Int) (c.val : Int)) 1 = 1 ↔ m.val.testBit c.val = true) ∧ Go.bits .or .i64 (m.val : Int) (shl .i64 1 (c.val : Int)) = ((m.val ||| 2 ^ c.val : Nat) : Int) := by decide +kernel

theorem bit_test (m : Nat) (hm : m < 256) (c : Nat) (hc : c < 8) : (Go.bits .and .i64 (shr .i64 (m : Int) (c : Int)) 1 = 1) ↔ m.testBit c = true :=
  (bits_all ⟨m, hm⟩ ⟨c, hc⟩).1
theorem bit_set (m : Nat) (hm : m < 256) (c : Nat) (hc : c < 8) : Go.bits .or .i64 (m : Int) (shl .i64 1 (c : Int)) = ((m ||| 2 ^ c : Nat) : Int) :=
  (bits_all ⟨m, hm⟩ ⟨c, hc⟩).2

theorem set_lt (m : Nat) (hm : m < 256) (c : Nat) (hc : c < 8) : m ||| 2 ^ c < 256 := by
  have h2 : 2 ^ c < 2 ^ 8 := Nat.pow_lt_pow_right (by decide) hc
  exact Nat.or_lt_two_pow (n := 8) hm h2
theorem test_set (m c j : Nat) : (m ||| 2 ^ c).testBit j = true ↔ (m.testBit j = true ∨ j = c) := by
  rw [Nat.testBit_or, Bool.or_eq_true, Nat.testBit_two_pow, decide_eq_true_iff]
  exact ⟨fun h => h.imp id Eq.symm, fun h => h.imp id Eq.symm⟩

theorem right_loop (o : List Int) (ho : o.length ≤ 8) : ∀ (rest pre : List Int) (m : Nat) (k : Nat), o = pre ++ rest → m < 256 → (∀ j : Nat, j < 8 → (m.testBit j = true ↔ (j : Int) ∈ pre)) → (∀ c ∈ pre, 0 ≤ c ∧ c < (o.length : Int)) → pre.Nodup → rest.length < k →
    tuple_Right.l0 k o (m : Int) o (o.length : Int) (pre.length : Int) = some (decide (Rt o)) := by
  intro rest
  induction rest with
  | nil =>
    intro pre m k e hm hb hr hn hk
    obtain ⟨k, rfl⟩ : ∃ q, k = q + 1 := ⟨k - 1, by omega⟩
    have e' : pre = o := by simpa using e.symm
    subst e'
    have hR : Rt pre := ⟨ho, hr, hn⟩
    simp only [tuple_Right.l0]
    rw [if_neg (by omega), decide_eq_true hR]
  | cons c rest ih =>
    intro pre m k e hm hb hr hn hk
    simp only [List.length_cons] at hk
    obtain ⟨k, rfl⟩ : ∃ q, k = q + 1 := ⟨k - 1, by omega⟩
    have hl : o.length = pre.length + (rest.length + 1) := by rw [e]; simp
    have hat := rd_at e
    have hmem : c ∈ o := by rw [e]; simp
    simp only [tuple_Right.l0]
    rw [if_pos (by omega), if_pos (by omega), if_pos (by omega), hat]
    by_cases h1 : c < 0
    · rw [if_pos h1, decide_eq_false (fun h => by have := h.2.1 c hmem; omega)]
    rw [if_neg h1]
    by_cases h2 : c ≥ (o.length : Int)
    · rw [if_pos h2, decide_eq_false (fun h => by have := h.2.1 c hmem; omega)]
    rw [if_neg h2, if_pos (by omega)]
    obtain ⟨d, rfl⟩ : ∃ d : Nat, c = (d : Int) := ⟨c.toNat, by omega⟩
    have hd : d < 8 := by omega
    by_cases h3 : m.testBit d = true
    · rw [if_pos ((bit_test m hm d hd).2 h3)]
      have hin := (hb d hd).1 h3
      rw [decide_eq_false]
      intro h
      have := h.2.2
      rw [e, List.nodup_append] at this
      exact this.2.2 _ hin _ (by simp) rfl
    · rw [if_neg (fun h => h3 ((bit_test m hm d hd).1 h)), bit_set m hm d hd, wrap_nat _ (by omega)]
      have hnin : (d : Int) ∉ pre := fun h => h3 ((hb d hd).2 h)
      have key := ih (pre ++ [(d : Int)]) (m ||| 2 ^ d) k (by rw [e]; simp) (set_lt m hm d hd) (fun j hj => by
        rw [test_set, hb j hj]; simp [Int.ofNat_inj]) (fun c hc => by
          rcases List.mem_append.1 hc with h | h
          · exact hr c h
          · simp at h; subst h; omega) (by
          rw [List.nodup_append]; refine ⟨hn, by simp, ?_⟩
          intro a ha b hb' hab; simp at hb'; subst hb'; subst hab; exact hnin ha) (by omega)
      simpa using key

theorem right_is (k : Nat) (o : List Int) (hk : o.length < k) : tuple_Right.f k o = some (decide (Rt o)) := by
  unfold tuple_Right.f
  by_cases h : (o.length : Int) > 8
  · rw [if_pos h, decide_eq_false (fun hR => by have := hR.1; omega)]
  · rw [if_neg h]
    have := right_loop o (by omega) o [] 0 k (by simp) (by decide) (fun j _ => by simp) (fun c hc => by simp at hc) (by simp) hk
    simpa using this

theorem rdL_at {xs pre rest : List (List Int)} {c : List Int} (h : xs = pre ++ c :: rest) : rd_L1 xs (pre.length : Int) = c := by
  subst h; simp [rd_L1]
theorem fit_loop (o : List Int) (ts : List (List Int)) (hn : ts.length < 9223372036854775807) : ∀ (rest pre : List (List Int)) (k : Nat), ts = pre ++ rest → o.length + rest.length + 1 < k →
    tuple_fit.l0 k o ts (ts.length : Int) (pre.length : Int) = some (decide ((∀ t ∈ rest, t.length = o.length) ∧ Rt o)) := by
  intro rest
  induction rest with
  | nil =>
    intro pre k e hk
    obtain ⟨k, rfl⟩ : ∃ q, k = q + 1 := ⟨k - 1, by omega⟩
    have e' : pre = ts := by simpa using e.symm
    subst e'
    simp only [tuple_fit.l0]
    rw [if_neg (by omega), right_is _ _ (by omega)]
    simp
  | cons t rest ih =>
    intro pre k e hk
    simp only [List.length_cons] at hk
    obtain ⟨k, rfl⟩ : ∃ q, k = q + 1 := ⟨k - 1, by omega⟩
    have hl : ts.length = pre.length + (rest.length + 1) := by rw [e]; simp
    have hat := rdL_at e
    simp only [tuple_fit.l0]
    rw [if_pos (by omega), if_pos (by omega), if_pos (by omega), hat]
    by_cases h : (t.length : Int) = (o.length : Int)
    · rw [if_pos h, wrap_nat _ (by omega)]
      have h' : t.length = o.length := by omega
      have key := ih (pre ++ [t]) k (by rw [e]; simp) (by omega)
      simp only [List.length_append, List.length_cons, List.length_nil, Nat.zero_add] at key
      rw [key]
      simp [h']
    · rw [if_neg h]
      have h' : ¬ t.length = o.length := by omega
      simp [h']
theorem fit1 (k : Nat) (o a : List Int) (hk : o.length + 2 < k) : tuple_fit.f k o [a] = some (decide (a.length = o.length ∧ Rt o)) := by
  have := fit_loop o [a] (by simp) [a] [] k rfl (by simp; omega)
  simpa [tuple_fit.f] using this
theorem fit2 (k : Nat) (o a b : List Int) (hk : o.length + 3 < k) : tuple_fit.f k o [a, b] = some (decide (a.length = o.length ∧ b.length = o.length ∧ Rt o)) := by
  have := fit_loop o [a, b] (by simp) [a, b] [] k rfl (by simp; omega)
  simpa [tuple_fit.f, and_assoc] using this

/-- The order of two tuples, columns as they come. -/
def cmpL : List Int → List Int → List Int → Int
  | [], _, _ => 0
  | c :: o, a, b => if rd a c < rd b c then -1 else if rd a c > rd b c then 1 else cmpL o a b
def Fit (o a : List Int) : Prop := a.length = o.length ∧ Rt o
instance decFit (o a : List Int) : Decidable (Fit o a) := by unfold Fit; infer_instance
def cmpS (o a b : List Int) : Int := if Fit o a ∧ Fit o b then cmpL o a b else 0

theorem compare_is (x y : Int) : cmp_Compare_int.f x y = some (if x < y then -1 else if x > y then 1 else 0) := by
  unfold cmp_Compare_int.f cmp_isNaN_int.f
  simp
  split
  · rfl
  · split <;> rfl

theorem cmp_loop (o a b : List Int) (ho : o.length ≤ 8) (hr : ∀ c ∈ o, 0 ≤ c ∧ c < (o.length : Int)) (ha : a.length = o.length) (hb : b.length = o.length) : ∀ (rest pre : List Int) (k : Nat), o = pre ++ rest → rest.length < k →
    tuple_Cmp.l0 k a b o (o.length : Int) (pre.length : Int) = some (cmpL rest a b) := by
  intro rest
  induction rest with
  | nil =>
    intro pre k e hk
    obtain ⟨k, rfl⟩ : ∃ q, k = q + 1 := ⟨k - 1, by omega⟩
    have e' : pre = o := by simpa using e.symm
    subst e'
    simp only [tuple_Cmp.l0]
    rw [if_neg (by omega)]; rfl
  | cons c rest ih =>
    intro pre k e hk
    simp only [List.length_cons] at hk
    obtain ⟨k, rfl⟩ : ∃ q, k = q + 1 := ⟨k - 1, by omega⟩
    have hl : o.length = pre.length + (rest.length + 1) := by rw [e]; simp
    have hat := rd_at e
    have hmem := hr c (by rw [e]; simp)
    simp only [tuple_Cmp.l0]
    rw [if_pos (by omega), if_pos (by omega), if_pos (by omega), hat, if_pos (by omega), if_pos (by omega), if_pos (by omega), compare_is]
    simp only [Option.bind_some, cmpL]
    by_cases h1 : rd a c < rd b c
    · rw [if_pos h1, if_pos h1, if_neg (by decide)]
    rw [if_neg h1, if_neg h1]
    by_cases h2 : rd a c > rd b c
    · rw [if_pos h2, if_pos h2, if_neg (by decide)]
    rw [if_neg h2, if_neg h2, if_pos rfl, wrap_nat _ (by omega)]
    have key := ih (pre ++ [c]) k (by rw [e]; simp) (by omega)
    simpa using key

theorem cmp_is (k : Nat) (o a b : List Int) (hk : o.length + 3 < k) : tuple_Cmp.f k o a b = some (cmpS o a b) := by
  unfold tuple_Cmp.f cmpS
  rw [fit2 k o a b hk]
  simp only [Option.bind_some]
  by_cases h : Fit o a ∧ Fit o b
  · rw [if_pos h, if_pos (decide_eq_true ⟨h.1.1, h.2.1, h.1.2⟩)]
    have := cmp_loop o a b h.1.2.1 h.1.2.2.1 h.1.1 h.2.1 o [] k (by simp) (by omega)
    simpa using this
  · rw [if_neg h, if_neg]
    simp only [decide_eq_true_eq]
    intro g; exact h ⟨⟨g.1, g.2.2⟩, g.2.1, g.2.2⟩

theorem same_loop (a b : List Int) (hn : a.length ≤ 9223372036854775806) (hl : a.length = b.length) : ∀ (d i k : Nat), a.length - i = d → i ≤ a.length → d < k → (∀ j, j < i → a.getD j 0 = b.getD j 0) →
    vestryref04_Same.l0 k a b (i : Int) = some (decide (a = b)) := by
  intro d
  induction d with
  | zero =>
    intro i k hd hi hk h
    obtain ⟨k, rfl⟩ : ∃ q, k = q + 1 := ⟨k - 1, by omega⟩
    simp only [vestryref04_Same.l0]
    rw [if_neg (by omega), decide_eq_true]
    apply List.ext_getElem hl
    intro j h1 h2
    have := h j (by omega)
    simpa [h1, h2] using this
  | succ d ih =>
    intro i k hd hi hk h
    obtain ⟨k, rfl⟩ : ∃ q, k = q + 1 := ⟨k - 1, by omega⟩
    simp only [vestryref04_Same.l0]
    rw [if_pos (by omega), if_pos (by omega), if_pos (by omega)]
    by_cases e : rd a (i : Int) = rd b (i : Int)
    · rw [if_pos e, wrap_nat _ (by omega)]
      refine ih (i + 1) k (by omega) (by omega) (by omega) (fun j hj => ?_)
      by_cases hji : j = i
      · subst hji; simpa [rd] using e
      · exact h j (by omega)
    · rw [if_neg e, decide_eq_false]
      intro he; subst he; exact e rfl

theorem same_is (k : Nat) (a b : List Int) (hn : a.length ≤ 9223372036854775806) (hk : a.length < k) : vestryref04_Same.f k a b = some (decide (a = b)) := by
  unfold vestryref04_Same.f
  by_cases h : (a.length : Int) = (b.length : Int)
  · rw [if_pos h]
    exact same_loop a b hn (by omega) a.length 0 k (by omega) (by omega) hk (fun j hj => by omega)
  · rw [if_neg h, decide_eq_false]
    intro e; subst e; exact h rfl

/-! what a right order says -/
theorem rd_mem {o : List Int} (h : Rt o) (i : Nat) (hi : i < o.length) : 0 ≤ rd o (i : Int) ∧ rd o (i : Int) < o.length := by
  have : rd o (i : Int) ∈ o := by simp [rd, hi]
  exact h.2.1 _ this

end Go.Proofs.Ytcmllllbmgcnlaa.Tup

namespace Go.Proofs.Ytcmllllbmgcnlaa.Tup
open Go.RowKit Go.Proofs.Ytcmllllbmgcnlaa.F Go.Proofs.YtcmllllbmgcnlaaW.PrintWords Go.Proofs.YtcmllllbmgcnlaaW.PrintLast Go.Proofs.YtcmllllbmgcnlaaW.PrintMore
set_option linter.unusedVariables false
set_option linter.unusedSimpArgs false

/-! ### pigeons -/
theorem len_le {l m : List Int} (hn : l.Nodup) (hs : ∀ x ∈ l, x ∈ m) : l.length ≤ m.length := by
  induction l generalizing m with
  | nil => simp
  | cons a l ih =>
    rw [List.nodup_cons] at hn
    have ha : a ∈ m := hs a (by simp)
    have h1 := ih (m := m.erase a) hn.2 (fun x hx => by
      have hxa : x ≠ a := fun e => hn.1 (e ▸ hx)
      exact (List.mem_erase_of_ne hxa).2 (hs x (by simp [hx])))
    have h2 := List.length_erase_of_mem ha
    have h3 : 0 < m.length := List.length_pos_of_mem ha
    simp only [List.length_cons]
    omega
/-- 0 .. n-1. -/
def upto (n : Nat) : List Int := (List.range n).map (fun i : Nat => (i : Int))
theorem upto_len (n : Nat) : (upto n).length = n := by simp [upto]
theorem mem_upto {n : Nat} {x : Int} : x ∈ upto n ↔ 0 ≤ x ∧ x < n := by
  unfold upto
  simp only [List.mem_map, List.mem_range]
  constructor
  · rintro ⟨i, hi, rfl⟩; omega
  · intro h; exact ⟨x.toNat, by omega, by omega⟩
theorem upto_nodup (n : Nat) : (upto n).Nodup := by
  unfold upto
  refine List.Pairwise.map _ (fun (a b : Nat) h => ?_) List.nodup_range
  intro e; exact h (by omega)
theorem Rt.all {o : List Int} (h : Rt o) (x : Int) (h0 : 0 ≤ x) (hx : x < o.length) : x ∈ o := by
  apply Classical.byContradiction
  intro hn
  have h1 := len_le (l := o) (m := (upto o.length).erase x) h.2.2 (fun y hy => by
    have : y ≠ x := fun e => hn (e ▸ hy)
    exact (List.mem_erase_of_ne this).2 (mem_upto.2 (h.2.1 y hy)))
  have hm : x ∈ upto o.length := mem_upto.2 ⟨h0, hx⟩
  have h2 := List.length_erase_of_mem hm
  rw [upto_len] at h2
  omega
theorem Rt.of_all {o : List Int} (h8 : o.length ≤ 8) (h : ∀ i : Nat, i < o.length → (i : Int) ∈ o) : Rt o := by
  have hs : ∀ x ∈ upto o.length, x ∈ o := fun x hx => by
    have := mem_upto.1 hx
    have e := h x.toNat (by omega)
    rwa [show ((x.toNat : Nat) : Int) = x by omega] at e
  refine ⟨h8, fun c hc => ?_, ?_⟩
  · apply Classical.byContradiction
    intro hn
    have h1 := len_le (l := upto o.length) (m := o.erase c) (upto_nodup _) (fun x hx => by
      have : x ≠ c := fun e => hn (e ▸ mem_upto.1 hx)
      exact (List.mem_erase_of_ne this).2 (hs x hx))
    have h2 := List.length_erase_of_mem hc
    have h3 : 0 < o.length := List.length_pos_of_mem hc
    rw [upto_len] at h1
    omega
  · rw [List.nodup_iff_count]
    intro c
    apply Classical.byContradiction
    intro hn
    have hc : c ∈ o := List.count_pos_iff.1 (by omega)
    have h1 := len_le (l := upto o.length) (m := o.erase c) (upto_nodup _) (fun x hx => by
      by_cases e : x = c
      · subst e
        apply List.count_pos_iff.1
        rw [List.count_erase_self]; omega
      · exact (List.mem_erase_of_ne e).2 (hs x hx))
    have h2 := List.length_erase_of_mem hc
    have h3 : 0 < o.length := List.length_pos_of_mem hc
    rw [upto_len] at h1
    omega
theorem Rt.iff_all {o : List Int} : Rt o ↔ o.length ≤ 8 ∧ ∀ i : Nat, i < o.length → (i : Int) ∈ o :=
  ⟨fun h => ⟨h.1, fun i hi => h.all i (by omega) (by omega)⟩, fun h => Rt.of_all h.1 h.2⟩

/-! ### the tuples' turns -/
def turnS (o t : List Int) : List Int := if Fit o t then o.map (fun c => rd t c) else []
def backL : List Int → Nat → List Int → List Int → List Int
  | [], _, _, out => out
  | c :: o, i, t, out => backL o (i + 1) t (out.set c.toNat (rd t i))
def backS (o t : List Int) : List Int := if Fit o t then backL o 0 t (List.replicate t.length 0) else []

/-! ### heads -/
def headL : Nat → List Int → List Int → List Int → Bool
  | 0, _, _, _ => true
  | _ + 1, [], _, _ => true
  | k + 1, c :: o, a, b => decide (rd a c = rd b c) && headL k o a b
def headS (o : List Int) (k : Int) (a b : List Int) : Bool := decide (Fit o a ∧ Fit o b) && headL k.toNat o a b
theorem headL_more (o : List Int) (a b : List Int) (k : Nat) (h : o.length ≤ k) : headL k o a b = headL o.length o a b := by
  induction o generalizing k with
  | nil => cases k <;> rfl
  | cons c o ih =>
    simp only [List.length_cons] at h
    obtain ⟨k, rfl⟩ : ∃ q, k = q + 1 := ⟨k - 1, by omega⟩
    simp only [headL, List.length_cons]
    rw [ih k (by omega)]

theorem head_loop (o a b : List Int) (m : Nat) (hm : m ≤ o.length) (ho : o.length ≤ 8) (hr : ∀ c ∈ o, 0 ≤ c ∧ c < (o.length : Int)) (ha : a.length = o.length) (hb : b.length = o.length) : ∀ (rest pre : List Int) (k : Nat), o = pre ++ rest → pre.length ≤ m → rest.length < k →
    tuple_Head.l0 k o a b (m : Int) (pre.length : Int) = some (headL (m - pre.length) rest a b) := by
  intro rest
  induction rest with
  | nil =>
    intro pre k e hp hk
    obtain ⟨k, rfl⟩ : ∃ q, k = q + 1 := ⟨k - 1, by omega⟩
    have e' : pre = o := by simpa using e.symm
    subst e'
    simp only [tuple_Head.l0]
    rw [if_neg (by omega)]
    cases m - pre.length <;> rfl
  | cons c rest ih =>
    intro pre k e hp hk
    simp only [List.length_cons] at hk
    obtain ⟨k, rfl⟩ : ∃ q, k = q + 1 := ⟨k - 1, by omega⟩
    have hl : o.length = pre.length + (rest.length + 1) := by rw [e]; simp
    have hat := rd_at e
    have hmem := hr c (by rw [e]; simp)
    simp only [tuple_Head.l0]
    by_cases hlt : (pre.length : Int) < (m : Int)
    · rw [if_pos hlt, if_pos (by omega), if_pos (by omega), hat, if_pos (by omega), if_pos (by omega), if_pos (by omega)]
      obtain ⟨d, hd⟩ : ∃ d, m - pre.length = d + 1 := ⟨m - pre.length - 1, by omega⟩
      rw [hd]
      simp only [headL]
      by_cases h1 : rd a c = rd b c
      · rw [if_pos h1, wrap_nat _ (by omega)]
        have key := ih (pre ++ [c]) k (by rw [e]; simp) (by simp; omega) (by omega)
        have hd' : m - (pre ++ [c]).length = d := by simp; omega
        rw [hd'] at key
        simpa [h1] using key
      · rw [if_neg h1]; simp [h1]
    · rw [if_neg hlt]
      have : m - pre.length = 0 := by omega
      rw [this]; rfl

theorem head_is (k : Nat) (o : List Int) (n : Int) (a b : List Int) (hk : o.length + 3 < k) : tuple_Head.f k o n a b = some (headS o n a b) := by
  unfold tuple_Head.f headS
  rw [fit2 k o a b hk]
  simp only [Option.bind_some]
  by_cases h : Fit o a ∧ Fit o b
  · rw [if_pos (decide_eq_true ⟨h.1.1, h.2.1, h.1.2⟩), decide_eq_true h]
    obtain ⟨m, hm⟩ : ∃ m : Nat, mx (mn n (o.length : Int)) 0 = (m : Int) := ⟨(mx (mn n (o.length : Int)) 0).toNat, by unfold mx; split <;> omega⟩
    have hm1 : m ≤ o.length := by unfold mx mn at hm; split at hm <;> split at hm <;> omega
    have hm2 : headL n.toNat o a b = headL m o a b := by
      by_cases hn : n.toNat ≤ o.length
      · have : n.toNat = m := by unfold mx mn at hm; split at hm <;> split at hm <;> omega
        rw [this]
      · have : m = o.length := by unfold mx mn at hm; split at hm <;> split at hm <;> omega
        rw [headL_more o a b n.toNat (by omega), this]
    rw [hm, hm2]
    have := head_loop o a b m hm1 h.1.2.1 h.1.2.2.1 h.1.1 h.2.1 o [] k (by simp) (by simp) (by omega)
    simpa using this
  · rw [decide_eq_false h, if_neg]
    · rfl
    · simp only [decide_eq_true_eq]
      intro g; exact h ⟨⟨g.1, g.2.2⟩, g.2.1, g.2.2⟩

/-! ### laws of the order -/
theorem cmpL_flip (o a b : List Int) : cmpL o b a = - cmpL o a b := by
  induction o with
  | nil => rfl
  | cons c o ih =>
    simp only [cmpL]
    by_cases h1 : rd a c < rd b c
    · rw [if_neg (by omega), if_pos (by omega), if_pos h1]; rfl
    · by_cases h2 : rd a c > rd b c
      · rw [if_pos (by omega), if_neg h1, if_pos h2]
      · rw [if_neg (by omega), if_neg (by omega), if_neg h1, if_neg h2, ih]
theorem cmpL_range (o a b : List Int) : cmpL o a b = -1 ∨ cmpL o a b = 0 ∨ cmpL o a b = 1 := by
  induction o with
  | nil => simp [cmpL]
  | cons c o ih =>
    simp only [cmpL]
    split
    · simp
    · split
      · simp
      · exact ih
theorem cmpL_zero (o a b : List Int) : cmpL o a b = 0 ↔ ∀ c ∈ o, rd a c = rd b c := by
  induction o with
  | nil => simp [cmpL]
  | cons c o ih =>
    simp only [cmpL, List.mem_cons, forall_eq_or_imp]
    by_cases h1 : rd a c < rd b c
    · rw [if_pos h1]; constructor
      · intro h; omega
      · intro h; omega
    · by_cases h2 : rd a c > rd b c
      · rw [if_neg h1, if_pos h2]; constructor
        · intro h; omega
        · intro h; omega
      · rw [if_neg h1, if_neg h2, ih]
        constructor
        · intro h; exact ⟨by omega, h⟩
        · intro h; exact h.2
theorem cmpL_trans (o a b c : List Int) (h1 : cmpL o a b ≤ 0) (h2 : cmpL o b c ≤ 0) : cmpL o a c ≤ 0 := by
  induction o with
  | nil => simp [cmpL]
  | cons x o ih =>
    simp only [cmpL] at h1 h2 ⊢
    by_cases p1 : rd a x < rd b x
    · by_cases p2 : rd b x < rd c x
      · rw [if_pos (by omega)]; omega
      · rw [if_neg p2] at h2
        by_cases p3 : rd b x > rd c x
        · rw [if_pos p3] at h2; omega
        · rw [if_pos (by omega)]; omega
    · rw [if_neg p1] at h1
      by_cases p2 : rd a x > rd b x
      · rw [if_pos p2] at h1; omega
      · rw [if_neg p2] at h1
        by_cases p3 : rd b x < rd c x
        · rw [if_pos (by omega)]; omega
        · rw [if_neg p3] at h2
          by_cases p4 : rd b x > rd c x
          · rw [if_pos p4] at h2; omega
          · rw [if_neg p4] at h2
            rw [if_neg (by omega), if_neg (by omega)]
            exact ih h1 h2
theorem cmpL_heads (o a b c : List Int) (h1 : cmpL o a b ≤ 0) (h2 : cmpL o b c ≤ 0) (k : Nat) (h : headL k o a c = true) : headL k o a b = true := by
  induction o generalizing k with
  | nil => cases k <;> rfl
  | cons x o ih =>
    cases k with
    | zero => rfl
    | succ k =>
      simp only [headL, Bool.and_eq_true, decide_eq_true_eq] at h ⊢
      simp only [cmpL] at h1 h2
      by_cases p1 : rd a x < rd b x
      · rw [if_neg (by omega), if_pos (by omega)] at h2; omega
      · rw [if_neg p1] at h1
        by_cases p2 : rd a x > rd b x
        · rw [if_pos p2] at h1; omega
        · rw [if_neg p2] at h1
          rw [if_neg (by omega), if_neg (by omega)] at h2
          exact ⟨by omega, ih h1 h2 k h.2⟩
theorem rd_ext {a b : List Int} (hl : a.length = b.length) (h : ∀ i : Nat, i < a.length → rd a (i : Int) = rd b (i : Int)) : a = b := by
  apply List.ext_getElem hl
  intro j h1 h2
  have := h j h1
  simpa [rd, h1, h2] using this
theorem same_of_order {o a b : List Int} (ha : Fit o a) (hb : Fit o b) (h : ∀ c ∈ o, rd a c = rd b c) : a = b := by
  refine rd_ext (by rw [ha.1, hb.1]) (fun i hi => h _ ?_)
  exact ha.2.all _ (by omega) (by rw [← ha.1]; omega)

end Go.Proofs.Ytcmllllbmgcnlaa.Tup

namespace Go.Proofs.Ytcmllllbmgcnlaa.Tup
open Go.RowKit Go.Proofs.Ytcmllllbmgcnlaa.F Go.Proofs.YtcmllllbmgcnlaaW.PrintWords Go.Proofs.YtcmllllbmgcnlaaW.PrintLast Go.Proofs.YtcmllllbmgcnlaaW.PrintMore
set_option linter.unusedVariables false
set_option linter.unusedSimpArgs false

/-- A slice of whole numbers that is read. -/
structure Sl (w : World) (A : Option Addr) (c : Nat) (l : List Int) : Prop where
  C : Kd.C (Kd.int .i64) w A l.length l
  le : l.length ≤ c
theorem Sl.below {w w1 : World} {A : Option Addr} {c : Nat} {l : List Int} (h : Sl w A c l) (hb : Below w.heap.size w w1) : Sl w1 A c l := ⟨Kd.C_below h.C hb, h.le⟩
theorem Sl.alloc {w : World} {A : Option Addr} {c : Nat} {l : List Int} (h : Sl w A c l) (o : Obj) : Sl (w.alloc o) A c l := ⟨Kd.C_alloc h.C o, h.le⟩
theorem Sl.drewN {w : World} {A : Option Addr} {c : Nat} {l : List Int} (h : Sl w A c l) (n : Nat) : Sl (w.drewN n) A c l := ⟨Kd.C_drewN h.C n, h.le⟩
theorem Sl.drew {w : World} {A : Option Addr} {c : Nat} {l : List Int} (h : Sl w A c l) : Sl w.drew A c l := ⟨Kd.C_drew h.C, h.le⟩
theorem Sl.V {w : World} {A : Option Addr} {c : Nat} {l : List Int} (h : Sl w A c l) : Kd.V (Kd.int .i64) 3 w w.heap.size (fun k => k < w.heap.size) (.slice A l.length c) l := Kd.V_mk h.le (Kd.C_F (Kd.heap_int .i64) h.C)
theorem Sl.small {w : World} {A : Option Addr} {c : Nat} {l : List Int} (h : Sl w A c l) : l.length ≤ 9223372036854775807 := Kd.F_max (Kd.C_F (Kd.heap_int .i64) h.C)
theorem R_sl {w : World} {base : Nat} {ok : Nat → Prop} {v : Value} {r : List Int} (h : Kd.R (Kd.int .i64) 3 w base ok v r) : ∃ A c, v = .slice A r.length c ∧ Sl w A c r := by
  obtain ⟨A, c, e, hl, hc⟩ := Kd.R_reads h
  exact ⟨A, c, e, hc, hl⟩

/-- What is new since a world. -/
structure Since (w0 w' : World) : Prop where
  b : Below w0.heap.size w0 w'
theorem Since.refl (w : World) : Since w w := ⟨Below.refl _ _⟩
theorem Since.drew {w w' : World} (h : Since w w') : Since w w'.drew := ⟨below_drew h.b⟩
theorem Since.drewN {w w' : World} (h : Since w w') (n : Nat) : Since w (w'.drewN n) := ⟨pw_below_drewN h.b n⟩
theorem Since.step {w w1 w2 : World} (h : Since w w1) (hb : Below w1.heap.size w1 w2) : Since w w2 := ⟨below_then h.b h.b.size hb⟩
theorem Since.alloc {w w1 : World} (h : Since w w1) (o : Obj) : Since w (w1.alloc o) := ⟨below_alloc h.b o⟩
theorem Since.sl {w w' : World} {A : Option Addr} {c : Nat} {l : List Int} (h : Since w w') (hs : Sl w A c l) : Sl w' A c l := hs.below h.b
theorem Since.trans {w w1 w2 : World} (h : Since w w1) (k : Since w1 w2) : Since w w2 := h.step k.b
theorem Since.ofDrawn {w w' : World} (h : Drawn0 w w') : Since w w' := ⟨h.below⟩

theorem right_calls (A0 : Option Addr) (c0 : Nat) (o : List Int) (w : World) (h0 : Sl w A0 c0 o) :
    Calls Try.prog 46 #[.slice A0 o.length c0] w fun e w' => e = .returned (.bool (decide (Rt o))) ∧ Drawn0 w w' :=
  tuple_Right.calls (o.length + 1) _ _ o _ w h0.C h0.le (right_is _ o (by omega))
theorem cmp_calls (A0 : Option Addr) (c0 : Nat) (o : List Int) (A1 : Option Addr) (c1 : Nat) (a : List Int) (A2 : Option Addr) (c2 : Nat) (b : List Int) (w : World) (h0 : Sl w A0 c0 o) (h1 : Sl w A1 c1 a) (h2 : Sl w A2 c2 b) :
    Calls Try.prog 65 #[.slice A0 o.length c0, .slice A1 a.length c1, .slice A2 b.length c2] w fun e w' => e = .returned (.int .i64 (cmpS o a b)) ∧ Below w.heap.size w w' :=
  tuple_Cmp.calls (o.length + 4) _ _ o _ _ _ a _ _ _ b _ w h0.C h0.le h1.V h2.V (cmp_is _ o a b (by omega))
theorem head_calls (A0 : Option Addr) (c0 : Nat) (o : List Int) (k : Int) (A1 : Option Addr) (c1 : Nat) (a : List Int) (A2 : Option Addr) (c2 : Nat) (b : List Int) (w : World) (h0 : Sl w A0 c0 o) (h1 : Sl w A1 c1 a) (h2 : Sl w A2 c2 b) :
    Calls Try.prog 62 #[.slice A0 o.length c0, .int .i64 k, .slice A1 a.length c1, .slice A2 b.length c2] w fun e w' => e = .returned (.bool (headS o k a b)) ∧ Below w.heap.size w w' :=
  tuple_Head.calls (o.length + 4) _ _ o _ _ _ _ a _ _ _ b _ w h0.C h0.le h1.V h2.V (head_is _ o k a b (by omega))
theorem same_calls (A0 : Option Addr) (c0 : Nat) (a : List Int) (A1 : Option Addr) (c1 : Nat) (b : List Int) (w : World) (h0 : Sl w A0 c0 a) (h1 : Sl w A1 c1 b) (hn : a.length ≤ 9223372036854775806) :
    Calls Try.prog 25 #[.slice A0 a.length c0, .slice A1 b.length c1] w fun e w' => e = .returned (.bool (decide (a = b))) ∧ Drawn0 w w' :=
  vestryref04_Same.calls (a.length + 1) _ _ a _ _ b _ w h0.C h0.le h1.C h1.le (same_is _ a b hn (by omega))

end Go.Proofs.Ytcmllllbmgcnlaa.Tup

namespace Go.Proofs.Ytcmllllbmgcnlaa.Tup
open Go.RowKit Go.Lib Go.Proofs.Ytcmllllbmgcnlaa.F Go.Proofs.YtcmllllbmgcnlaaW.PrintWords Go.Proofs.YtcmllllbmgcnlaaW.PrintLast Go.Proofs.YtcmllllbmgcnlaaW.PrintMore
set_option linter.unusedVariables false
set_option linter.unusedSimpArgs false

theorem setRow_self {w : World} {g : Nat} {cur cs : Array Value} {t : TypeId} {fr : Nat × Nat} (h : w.heap[g]? = some (.cells cur t fr)) : (w.setRow g cs).heap[g]? = some (.cells cs t fr) := by
  have hlt := (Array.getElem?_eq_some_iff.1 h).1
  have hv := (Array.getElem?_eq_some_iff.1 h).2
  simp [World.setRow, Array.getElem?_modify, h]
theorem setRow_grown (w : World) (g : Nat) (cs : Array Value) : w.grownBy (w.setRow g cs) (some g) :=
  ⟨rfl, rfl, rfl, by simp [World.setRow], fun k hk hne => setRow_other w g k cs (fun e => hne (by rw [e]))⟩

section
variable {P : Program} {w : World} {ops : Array Oper} {o : Oper} {a : Act} {Q : Exit → Act → World → Prop}
theorem wpList_copy_at {rest : List Oper} (hgd : o.guard = none) (d s : Operand) (dT sT : TypeId)
    (ho : o.op = .call { callee := .builtin .copy, args := #[d, s], argTypes := #[dT, sT] }) (elem : TypeId) (hu : P.underlying dT = some (.slice elem)) (hsz : (P.info? elem).map (·.size) = some 1)
    (g off dLen dCap : Nat) (ad : Addr) (sLen sCap : Nat) (hd : a.eval d = .slice (some ⟨g, off, none⟩) dLen dCap) (hs : a.eval s = .slice (some ad) sLen sCap)
    (cur : Array Value) (t : TypeId) (hg : w.heap[g]? = some (.cells cur t (0, 0))) (cs : List Value) (hn : cs.length = Nat.min sLen dLen)
    (hsrc : ∀ j v, cs[j]? = some v → w.cell? (ad.add j) = some v) (hfit : off + cs.length ≤ cur.size) (h1 : ∀ v ∈ cs, v.oneCell' = true)
    (h : ∀ w', w'.heap[g]? = some (.cells (cur.toList.take off ++ cs ++ cur.toList.drop (off + cs.length)).toArray t (0, 0)) → w.grownBy w' (some g) → w'.heap.size = w.heap.size → wpList P ops Q rest (a.put o.dst (goInt cs.length)) w') :
    wpList P ops Q (o :: rest) a w := by
  refine wpList_plain hgd fun K hK => ?_
  have hrun := run_copy_row (P := P) w dT sT o.type elem g off dLen dCap ad sLen sCap cur t cs hu hsz hg hn hsrc hfit h1
  unfold Oper.wp
  simp [execOp, ho, resolve, invoke, builtin, hd, hs, hrun, Result.andThen]
  refine hK _ _ ?_
  have := h _ (setRow_self hg) (setRow_grown w g _) (by simp [World.setRow])
  simpa using this
theorem step_copy_at {K : Act → World → Prop} {E : Prop} (hgd : o.guard = none) (d s : Operand) (dT sT : TypeId)
    (ho : o.op = .call { callee := .builtin .copy, args := #[d, s], argTypes := #[dT, sT] }) (elem : TypeId) (hu : P.underlying dT = some (.slice elem)) (hsz : (P.info? elem).map (·.size) = some 1)
    (g off dLen dCap : Nat) (ad : Addr) (sLen sCap : Nat) (hd : a.eval d = .slice (some ⟨g, off, none⟩) dLen dCap) (hs : a.eval s = .slice (some ad) sLen sCap)
    (cur : Array Value) (t : TypeId) (hg : w.heap[g]? = some (.cells cur t (0, 0))) (cs : List Value) (hn : cs.length = Nat.min sLen dLen)
    (hsrc : ∀ j v, cs[j]? = some v → w.cell? (ad.add j) = some v) (hfit : off + cs.length ≤ cur.size) (h1 : ∀ v ∈ cs, v.oneCell' = true)
    (h : ∀ w', w'.heap[g]? = some (.cells (cur.toList.take off ++ cs ++ cur.toList.drop (off + cs.length)).toArray t (0, 0)) → w.grownBy w' (some g) → w'.heap.size = w.heap.size → K (a.put o.dst (goInt cs.length)) w') :
    if Region.wanted o (yielded ops a.tmps) = true then Oper.wp P o a w K Q else E := by
  have hw : Region.wanted o (yielded ops a.tmps) = true := by simp [Region.wanted, hgd]
  rw [if_pos hw]
  have hrun := run_copy_row (P := P) w dT sT o.type elem g off dLen dCap ad sLen sCap cur t cs hu hsz hg hn hsrc hfit h1
  unfold Oper.wp
  simp [execOp, ho, resolve, invoke, builtin, hd, hs, hrun, Result.andThen]
  have := h _ (setRow_self hg) (setRow_grown w g _) (by simp [World.setRow])
  rw [List.append_assoc] at this
  exact this
end

/-- A cell of a block that is known whole. -/
theorem cell_of_heap {w : World} {g : Nat} {cur : Array Value} {t : TypeId} (h : w.heap[g]? = some (.cells cur t (0, 0))) (j : Nat) : w.cell? ⟨g, j, none⟩ = cur[j]? := by
  simp [World.cell?, h]
theorem free_of_heap {w : World} {g : Nat} {cur : Array Value} {t : TypeId} (h : w.heap[g]? = some (.cells cur t (0, 0))) (j : Nat) : w.frozen? ⟨g, j, none⟩ = false := by
  simp [World.frozen?, h]
theorem shape_of_heap {w : World} {g : Nat} {cur : Array Value} {t : TypeId} (h : w.heap[g]? = some (.cells cur t (0, 0))) : w.shape? g = some (t, cur.size) := by
  simp [World.shape?, h]

/-- One value more at i. -/
def insL {α : Type} (xs : List α) (i : Nat) (x : α) : List α := xs.take i ++ x :: xs.drop i

end Go.Proofs.Ytcmllllbmgcnlaa.Tup

namespace Go.Proofs.Ytcmllllbmgcnlaa.Tup
open Go.RowKit Go.Lib Go.Proofs.Ytcmllllbmgcnlaa.F Go.Proofs.YtcmllllbmgcnlaaW.PrintWords Go.Proofs.YtcmllllbmgcnlaaW.PrintLast Go.Proofs.YtcmllllbmgcnlaaW.PrintMore
set_option linter.unusedVariables false
set_option linter.unusedSimpArgs false

theorem insT_info : (Try.prog.info? 22).map (fun i => (i.zero, i.size, i.bytes)) = some (some (.slice none 0 0), 1, 24) := by kernel_rfl
theorem insT_sz : (Try.prog.info? 22).map (·.size) = some 1 := by kernel_rfl

/-- What an insertion leaves. -/
def InsT (w : World) (base : Nat) (v : Value) (n : Nat) (ys : List Value) (e : Ending) (w' : World) : Prop :=
  ∃ v', e = .returned v' ∧ w'.ownsRow base 22 1 v' (n + 1) ys ∧ w.grownBy w' v.ownBlock ∧ (v'.ownBlock = v.ownBlock ∨ ∃ g, v'.ownBlock = some g ∧ w.heap.size ≤ g)

theorem insT_shiftL {α : Type} (L : List α) (n i : Nat) (x : α) (hi : i < n) (hL : n + 1 ≤ L.length) :
    let c1 := L.take (i + 1) ++ (L.drop i).take (n - i) ++ L.drop (i + 1 + ((L.drop i).take (n - i)).length)
    let c2 := c1.take i ++ [x] ++ c1.drop (i + [x].length)
    c2.take (n + 1) = insL (L.take n) i x ∧ c2.length = L.length := by
  intro c1 c2
  have hl : ((L.drop i).take (n - i)).length = n - i := by simp; omega
  have e1 : c1.take i = L.take i := by
    show (L.take (i + 1) ++ (L.drop i).take (n - i) ++ L.drop (i + 1 + ((L.drop i).take (n - i)).length)).take i = L.take i
    rw [List.append_assoc, List.take_append_of_le_length (by simp; omega), List.take_take, Nat.min_eq_left (by omega)]
  have e2 : c1.drop (i + 1) = (L.drop i).take (n - i) ++ L.drop (i + 1 + ((L.drop i).take (n - i)).length) := by
    show (L.take (i + 1) ++ (L.drop i).take (n - i) ++ L.drop (i + 1 + ((L.drop i).take (n - i)).length)).drop (i + 1) = _
    rw [List.append_assoc]
    exact List.drop_left' (by simp; omega)
  have e3 : c2 = L.take i ++ x :: (L.drop i).take (n - i) ++ L.drop (i + 1 + (n - i)) := by
    show c1.take i ++ [x] ++ c1.drop (i + 1) = _
    rw [e1, e2, hl]; simp
  have e4 : (L.take n).drop i = (L.drop i).take (n - i) := by rw [List.drop_take]
  have e5 : (L.take n).take i = L.take i := by rw [List.take_take, Nat.min_eq_left (by omega)]
  constructor
  · rw [e3]
    unfold insL
    rw [e4, e5]
    exact List.take_left' (by simp; omega)
  · rw [e3]; simp; omega

theorem insT_growL {α : Type} (R L : List α) (n i G : Nat) (x : α) (hi : i < n) (hL : L.length = n) (hR : R.length = G) (hRt : R.take i = L.take i) (hG : n + 1 ≤ G) :
    let c2 := R.take i ++ [x] ++ R.drop (i + [x].length)
    let c3 := c2.take (i + 1) ++ L.drop i ++ c2.drop (i + 1 + (L.drop i).length)
    c3.take (n + 1) = insL L i x ∧ c3.length = G := by
  intro c2 c3
  have hl : (L.drop i).length = n - i := by simp [hL]
  have e1 : c2.take (i + 1) = L.take i ++ [x] := by
    show (R.take i ++ [x] ++ R.drop (i + 1)).take (i + 1) = _
    rw [hRt]
    exact List.take_left' (by simp [hL]; omega)
  have hc2 : c2.length = G := by
    show (R.take i ++ [x] ++ R.drop (i + 1)).length = G
    simp [hR]; omega
  have e3 : c3 = (L.take i ++ x :: L.drop i) ++ c2.drop (i + 1 + (L.drop i).length) := by
    show c2.take (i + 1) ++ L.drop i ++ c2.drop (i + 1 + (L.drop i).length) = _
    rw [e1]; simp
  constructor
  · rw [e3]
    exact List.take_left' (by simp [hL]; omega)
  · rw [e3]; simp [hc2, hL]; omega

set_option maxHeartbeats 2000000 in
set_option maxRecDepth 100000 in
/-- At the end. -/
theorem insT_end (w : World) (base : Nat) (v : Value) (n : Nat) (xs : List Value) (hown : w.ownsRow base 22 1 v n xs) (x : Value) (hx : x.oneCell' = true) (vb : Nat) (hvb : w.heap[vb]? = some (.cells #[x] 22 (0, 0)))
    (hbase : base ≤ w.heap.size) (hn : n ≤ 1000000) :
    Calls Try.prog 78 #[v, .int .i64 n, .slice (some ⟨vb, 0, none⟩) 1 1] w (InsT w base v n (xs ++ [x])) := by
  obtain ⟨i0, hi, hz0, hz1, hz2⟩ := info_parts insT_info
  have hcell : ∀ j u, [x][j]? = some u → w.cell? ((⟨vb, 0, none⟩ : Addr).add j) = some u := fun j u hj => by
    rw [Addr.add_lit, Nat.zero_add, cell_of_heap hvb]; simpa using hj
  obtain ⟨A, c, rfl⟩ : ∃ A c, v = .slice A n c := by
    rcases hown.2 with ⟨rfl, rfl⟩ | ⟨g, cap, cur, rfl, _⟩
    · exact ⟨_, _, rfl⟩
    · exact ⟨_, _, rfl⟩
  have hnc : n ≤ c := by
    rcases hown.2 with ⟨h, h2⟩ | ⟨g, cap, cur, h, _, _, h2, _⟩
    · simp at h; omega
    · simp at h; omega
  by_cases hcn : c = n
  · subst hcn
    go_enter Try.func78, Try.ntmps78
    go_wp2_with (at_builtin; refine wpList_append_own_at _ rfl _ _ 23 rfl base 22 i0 (.slice none 0 0) 1 24 Try.underlying23 hi hz0 hz1 hz2 rfl (by decide) (.slice A c c) c xs rfl hown ⟨vb, 0, none⟩ 1 1 [x] rfl rfl hcell (by simpa using hx) (by unfold maxLen; omega) (by omega) hbase ?_; intro v' w1 hown1 hg1 _ hat1)
    go_ret
    exact ⟨_, rfl, hown1, hg1, hat1.imp id (fun h => ⟨_, h, Nat.le_refl _⟩)⟩
  · skip
    go_enter Try.func78, Try.ntmps78
    go_wp2_with (at_builtin; refine wpList_append_own_at _ rfl _ _ 23 rfl base 22 i0 (.slice none 0 0) 1 24 Try.underlying23 hi hz0 hz1 hz2 rfl (by decide) (.slice A n c) n xs rfl hown ⟨vb, 0, none⟩ 1 1 [x] rfl rfl hcell (by simpa using hx) (by unfold maxLen; omega) (by omega) hbase ?_; intro v' w1 hown1 hg1 _ hat1)
    go_ret
    exact ⟨_, rfl, hown1, hg1, hat1.imp id (fun h => ⟨_, h, Nat.le_refl _⟩)⟩

theorem insT_over (w : World) (x : Value) (vb g i n c : Nat) (cur : Array Value) (hvb : w.heap[vb]? = some (.cells #[x] 22 (0, 0))) (hg : w.heap[g]? = some (.cells cur 22 (0, 0))) (hne : vb ≠ g) (hc : 0 < cur.size) :
    ∀ lb cb, (callFunc 89 #[.slice (some ⟨vb, 0, none⟩) 1 1, .slice (some ⟨g, i, none⟩) lb cb]).run Try.prog w = .ok (.value (.bool false)) w := fun lb cb => by
  rw [run_callFunc_extern Try.func89 (by kernel_rfl) (by kernel_rfl) (by kernel_rfl) (e := Extern.SlicesOverlaps.overlaps #[23, 23] #[4]) (by kernel_rfl),
    Lib.run_overlaps_apart w 23 4 22 Try.underlying23 1 (fun w => by kernel_rfl) ⟨vb, 0, none⟩ ⟨g, i, none⟩ 1 1 lb cb hne 22 22 1 cur.size (shape_of_heap hvb) (shape_of_heap hg) (by omega) (free_of_heap hvb 0) (free_of_heap hvb 1)]
  rfl

set_option maxHeartbeats 4000000 in
set_option maxRecDepth 100000 in
/-- In place. -/
theorem insT_shift (w : World) (base g c : Nat) (cur : Array Value) (n i : Nat) (hbg : base ≤ g) (hg : w.heap[g]? = some (.cells cur 22 (0, 0))) (hc : cur.size = c) (hc63 : c ≤ maxLen) (hin : i < n) (hroom : n + 1 ≤ c) (h1 : ∀ u ∈ cur.toList.take n, u.oneCell' = true)
    (x : Value) (hx : x.oneCell' = true) (vb : Nat) (hvb : w.heap[vb]? = some (.cells #[x] 22 (0, 0))) (hne : vb ≠ g) :
    Calls Try.prog 78 #[.slice (some ⟨g, 0, none⟩) n c, .int .i64 i, .slice (some ⟨vb, 0, none⟩) 1 1] w (InsT w base (.slice (some ⟨g, 0, none⟩) n c) n (insL (cur.toList.take n) i x)) := by
  unfold maxLen at hc63
  have hov := insT_over w x vb g (i + 1) n c cur hvb hg hne (by omega)
  have hz2 : ¬ ((i : Int) = (n : Int)) := by omega
  have hz2' : ((i : Int) == (n : Int)) = false := beq_eq_false_iff_ne.2 hz2
  have hz3 : ¬ ((c : Int) < (n : Int) + 1) := by omega
  have hb2 : ¬ (c = i + 1) := by omega
  have hb4 : ¬ (c = i) := by omega
  have hb3 : (i : Int) ≤ (n : Int) + 1 := by omega
  have hb5 : (i : Int) + 1 ≤ (n : Int) + 1 := by omega
  have hb6 : (i : Int) ≤ (n : Int) := by omega
  have hb7 : (n : Int) + 1 ≤ (c : Int) := by omega
  have htn : ((i : Int) + 1).toNat = i + 1 := by omega
  have htn2 : ((n : Int) + 1).toNat = n + 1 := by omega
  go_enter Try.func78, Try.ntmps78
  go_wp2_with (simp only [hov])
  have hxl : ((cur.toList.drop i).take (n - i)).length = n - i := by simp; omega
  have hsrc1 : ∀ W : World, W.heap[g]? = some (.cells cur 22 (0, 0)) → ∀ j v, ((cur.toList.drop i).take (n - i))[j]? = some v → W.cell? ((⟨g, i, none⟩ : Addr).add j) = some v := fun W hW j v hj => by
    rw [Addr.add_lit, cell_of_heap hW]
    rw [List.getElem?_take] at hj
    split at hj
    · rw [List.getElem?_drop] at hj; simpa using hj
    · cases hj
  have hone1 : ∀ v ∈ (cur.toList.drop i).take (n - i), v.oneCell' = true := fun v hv => by
    refine h1 v ?_
    have : (cur.toList.drop i).take (n - i) = (cur.toList.take n).drop i := by rw [List.drop_take]
    rw [this] at hv
    exact List.mem_of_mem_drop hv
  have hmn : ((cur.toList.drop i).take (n - i)).length = Nat.min (n + 1 - i) (n + 1 - (i + 1)) := by rw [hxl]; simp only [Nat.min_def]; split <;> omega
  have hfit1 : i + 1 + ((cur.toList.drop i).take (n - i)).length ≤ cur.size := by omega
  have HH := Aside0.mk (And.intro hxl (And.intro hsrc1 (And.intro hone1 (And.intro hmn hfit1))))
  have HG := Aside0.mk hg
  have HVB := Aside0.mk hvb
  have H1 := Aside0.mk h1
  have HC := Aside0.mk hc
  clear hxl hsrc1 hone1 hmn hfit1 hg hvb h1 hc
  have hw1 : IntKind.i64.wrap ((i : Int) + 1) = (i : Int) + 1 := by rw [IntKind.wrap_i64]; omega
  have hb1 : (0 : Int) ≤ (i : Int) + 1 := by omega
  go_region_law (refine step_copy_at rfl _ _ 23 23 rfl 22 Try.underlying23 insT_sz g (i + 1) (n + 1 - (i + 1)) (c - (i + 1)) ⟨g, i, none⟩ (n + 1 - i) (c - i) (by simp [Act.eval, Act.put]) (by simp [Act.eval, Act.put]) cur 22 (by exact HG.out) _ (HH.out.2.2.2.1) (HH.out.2.1 _ (by exact HG.out)) HH.out.2.2.2.2 HH.out.2.2.1 ?_; intro w1 hh1 hgr1 hsz1)
  have hvb1 : w1.heap[vb]? = some (.cells #[x] 22 (0, 0)) := by
    rw [hgr1.block vb ((Array.getElem?_eq_some_iff.1 HVB.out).1) (fun e => hne (Option.some.inj e))]; exact HVB.out
  have hcell : ∀ j u, [x][j]? = some u → w1.cell? ((⟨vb, 0, none⟩ : Addr).add j) = some u := fun j u hj => by
    rw [Addr.add_lit, Nat.zero_add, cell_of_heap hvb1]; simpa using hj
  have hmn2 : [x].length = Nat.min 1 (n + 1 - i) := by simp only [List.length_singleton, Nat.min_def]; split <;> omega
  have hL2 := insT_shiftL cur.toList n i x hin (by have := HC.out; simp; omega)
  obtain ⟨cur1, hcur1⟩ : ∃ l, l = cur.toList.take (i + 1) ++ (cur.toList.drop i).take (n - i) ++ cur.toList.drop (i + 1 + ((cur.toList.drop i).take (n - i)).length) := ⟨_, rfl⟩
  rw [← hcur1] at hh1
  simp only [← hcur1] at hL2
  have hcl : cur1.length = c := by
    have h1 := HH.out.1
    have h2 := HC.out
    rw [hcur1]; simp; omega
  have HHH := Aside0.mk (And.intro hh1 (And.intro hcell (And.intro hmn2 hL2)))
  have HCL := Aside0.mk hcl
  have HGR := Aside0.mk hgr1
  clear hh1 hvb1 hcell hmn2 hL2 hcur1 hcl hgr1 hsz1
  go_wp2_with ((with_reducible refine gate_builtin (b := .copy) (xs := #[.tmp 80, .tmp 81]) rfl ?_); refine wpList_copy_at rfl _ _ 23 23 rfl 22 Try.underlying23 insT_sz g i (n + 1 - i) (c - i) ⟨vb, 0, none⟩ 1 1 rfl rfl cur1.toArray 22 HHH.out.1 [x] HHH.out.2.2.1 HHH.out.2.1 (by have := HCL.out; simp; omega) (by simpa using hx) ?_; intro w2 hh2 hgr2 hsz2)
  go_ret
  have hfin := HHH.out.2.2.2
  have hcc := HC.out
  refine ⟨_, rfl, ⟨?_, .inr ⟨g, c, _, rfl, hbg, hh2, hroom, by unfold maxLen; omega, ?_, ?_⟩⟩, ⟨hgr2.os.trans HGR.out.os, hgr2.tape.trans HGR.out.tape, hgr2.output.trans HGR.out.output, Nat.le_trans HGR.out.size hgr2.size, fun k hk hk2 => (hgr2.block k (Nat.lt_of_lt_of_le hk HGR.out.size) hk2).trans (HGR.out.block k hk hk2)⟩, .inl rfl⟩
  · unfold insL; simp; omega
  · have := hfin.2; simp at this ⊢; omega
  · have := hfin.1; simpa using this

set_option maxHeartbeats 4000000 in
set_option maxRecDepth 100000 in
/-- No room: a new row. -/
theorem insT_grow (w : World) (base g : Nat) (cur : Array Value) (n i : Nat) (hbw : base ≤ w.heap.size) (hg : w.heap[g]? = some (.cells cur 22 (0, 0))) (hc : cur.size = n) (hin : i < n) (hn : n ≤ 1000000) (h1 : ∀ u ∈ cur.toList, u.oneCell' = true)
    (x : Value) (hx : x.oneCell' = true) (vb : Nat) (hvb : w.heap[vb]? = some (.cells #[x] 22 (0, 0))) :
    Calls Try.prog 78 #[.slice (some ⟨g, 0, none⟩) n n, .int .i64 i, .slice (some ⟨vb, 0, none⟩) 1 1] w (InsT w base (.slice (some ⟨g, 0, none⟩) n n) n (insL cur.toList i x)) := by
  obtain ⟨i0, hi0, hz0, hzs, hzb⟩ := info_parts insT_info
  have hgw := (Array.getElem?_eq_some_iff.1 hg).1
  have hvw := (Array.getElem?_eq_some_iff.1 hvb).1
  have hlen : cur.toList.length = n := by simpa using hc
  have hkk : (n : Int) + 1 - (i : Int) = ((n + 1 - i : Nat) : Int) := by omega
  have hik : i + (n + 1 - i) = n + 1 := by omega
  have hold : (Builtin.firstCells i0.size i (.slice (some ⟨g, 0, none⟩) i n)).run Try.prog w.drew = .ok (cur.toList.take i).toArray w.drew := by
    rw [hzs]
    exact run_firstCells_some w.drew 1 i ⟨g, 0, none⟩ i n (cur.toList.take i) (by rw [List.length_take]; omega) (fun j v hj => by
      rw [Addr.add_lit, Nat.zero_add]
      rw [List.getElem?_take] at hj
      split at hj
      · have : w.drew.cell? ⟨g, j, none⟩ = cur[j]? := cell_of_heap (w := w.drew) hg j
        rw [this]; simpa using hj
      · cases hj)
  have hrz : ∀ ty, (Builtin.append_ #[23, 3] ty #[.slice (some ⟨g, 0, none⟩) i n, .int .i64 ((n : Int) + 1 - (i : Int))]).run Try.prog w =
      .ok (.slice (some ⟨w.heap.size, 0, none⟩) (n + 1) (grownCap w (n + 1) n 22)) (w.drew.alloc (.cells ((cur.toList.take i).toArray ++ Builtin.zeroCells (Value.cells (.slice none 0 0)) (n + 1 - i) ++ Builtin.zeroCells (Value.cells (.slice none 0 0)) (grownCap w (n + 1) n 22 - (n + 1))) 22)) := fun ty => by
    have h := Lib.run_append_grow_zeros w 23 3 ty 22 i0 _ .i64 .i64 Try.underlying23 Try.underlying3 hi0 hz0 (some ⟨g, 0, none⟩) i n (cur.toList.take i) hold (n + 1 - i) (by omega) (by omega) (by omega) (by omega) (by rw [hzb]; omega) (by rw [hzb, hik]; exact growslice_fits (by omega) (by omega))
    rw [hik] at h
    rw [hkk]
    exact h
  obtain ⟨G, hG⟩ : ∃ G, G = grownCap w (n + 1) n 22 := ⟨_, rfl⟩
  obtain ⟨ROW, hROW⟩ : ∃ ROW : Array Value, ROW = (cur.toList.take i).toArray ++ Builtin.zeroCells (Value.cells (.slice none 0 0)) (n + 1 - i) ++ Builtin.zeroCells (Value.cells (.slice none 0 0)) (G - (n + 1)) := ⟨_, rfl⟩
  rw [← hG] at hrz
  rw [← hROW] at hrz
  have hGn : n + 1 ≤ G := by rw [hG]; exact grownCap_ge w _ _ _
  have hG63 : G ≤ maxLen := by
    have := grownCap_le_maxLen w (n + 1) n 22 (by unfold maxLen; omega)
    rw [← hG] at this
    exact this
  have hRl : ROW.size = G := by
    rw [hROW]
    simp [Builtin.zeroCells, Value.cells]
    omega
  have hRt : ROW.toList.take i = cur.toList.take i := by
    rw [hROW]
    simp only [Array.toList_append, List.append_assoc]
    rw [List.take_append_of_le_length (by simp; omega)]
    show List.take i (List.take i cur.toList) = _
    rw [List.take_take, Nat.min_self]
  obtain ⟨N, hN⟩ : ∃ N, N = w.heap.size := ⟨_, rfl⟩
  obtain ⟨W1, hW1⟩ : ∃ W1, W1 = w.drew.alloc (.cells ROW 22) := ⟨_, rfl⟩
  rw [← hW1, ← hN] at hrz
  have hNh : W1.heap[N]? = some (.cells ROW 22 (0, 0)) := by rw [hW1, hN]; exact heap_alloc_new w.drew _
  have hgr1 : w.grownBy W1 none := by
    rw [hW1]
    exact ⟨rfl, rfl, rfl, by simp [World.alloc], fun k hk _ => by
      show (w.heap.push _)[k]? = w.heap[k]?
      rw [Array.getElem?_push, if_neg (by omega)]⟩
  have hgh : W1.heap[g]? = some (.cells cur 22 (0, 0)) := (hgr1.block g hgw (by simp)).trans hg
  have hvh : W1.heap[vb]? = some (.cells #[x] 22 (0, 0)) := (hgr1.block vb hvw (by simp)).trans hvb
  have HROW := Aside0.mk (And.intro hRl (And.intro hRt (And.intro hGn hG63)))
  have HNH := Aside0.mk (And.intro hNh (And.intro hgh (And.intro hvh hgr1)))
  have HNe := Aside0.mk (show g ≠ N ∧ vb ≠ N ∧ w.heap.size = N by omega)
  have HB := Aside0.mk (And.intro hbw (And.intro hlen (And.intro h1 hin)))
  have hn63 : (n : Int) + 1 ≤ 9223372036854775807 := by omega
  have hz2 : ¬ ((i : Int) = (n : Int)) := by omega
  have hz2' : ((i : Int) == (n : Int)) = false := beq_eq_false_iff_ne.2 hz2
  have hz3 : (n : Int) < (n : Int) + 1 := by omega
  have hGi : ¬ (G = i) := by omega
  have hGim : ¬ (G = i + 1) := by omega
  have hci : ¬ (n = i) := by omega
  have hb3 : (i : Int) ≤ (n : Int) := by omega
  have hb5 : (i : Int) + 1 ≤ (n : Int) + 1 := by omega
  have hb6 : (i : Int) ≤ (n : Int) + 1 := by omega
  have hm1 : [x].length = Nat.min 1 (n + 1 - i) := by simp only [List.length_singleton, Nat.min_def]; split <;> omega
  have HM1 := Aside0.mk hm1
  clear hkk hik hold hROW hG hRl hRt hGn hG63 hN hW1 hNh hgr1 hgh hvh hlen h1 hg hvb hc hm1 hgw hvw hbw hi0 hz0 hzs hzb
  go_enter Try.func78, Try.ntmps78
  go_wp2_with (first
    | (at_builtin; refine Lib.wpList_append_run _ rfl _ _ _ _ rfl _ _ rfl rfl _ _ (hrz _) ?_)
    | ((with_reducible refine gate_builtin (b := .copy) (xs := #[.tmp 43, .tmp 44]) rfl ?_); refine wpList_copy_at rfl _ _ 23 23 rfl 22 Try.underlying23 insT_sz N i (n + 1 - i) (G - i) ⟨vb, 0, none⟩ 1 1 rfl rfl ROW 22 HNH.out.1 [x] HM1.out (fun j u hj => by rw [Addr.add_lit, Nat.zero_add, cell_of_heap HNH.out.2.2.1]; simpa using hj) (by have := HROW.out.1; have := HROW.out.2.2.1; have := HB.out.2.2.2; simp; omega) (by simpa using hx) ?_; intro w2 hh2 hgr2 hsz2))
  have hRL := insT_growL ROW.toList cur.toList n i G x HB.out.2.2.2 HB.out.2.1 (by simpa using HROW.out.1) HROW.out.2.1 HROW.out.2.2.1
  obtain ⟨c2, hc2⟩ : ∃ l, l = List.take i ROW.toList ++ [x] ++ List.drop (i + [x].length) ROW.toList := ⟨_, rfl⟩
  rw [← hc2] at hh2
  simp only [← hc2] at hRL
  have hcl : c2.length = G := by
    have h1 := HROW.out.1
    have h2 := HROW.out.2.2.1
    have h3 := HB.out.2.2.2
    rw [hc2]; simp; omega
  have hg2 : w2.heap[g]? = some (.cells cur 22 (0, 0)) := (hgr2.block g ((Array.getElem?_eq_some_iff.1 HNH.out.2.1).1) (fun e => HNe.out.1 (Option.some.inj e))).trans HNH.out.2.1
  have hsrc : ∀ W : World, W.heap[g]? = some (.cells cur 22 (0, 0)) → ∀ j v, (cur.toList.drop i)[j]? = some v → W.cell? ((⟨g, i, none⟩ : Addr).add j) = some v := fun W hW j v hj => by
    rw [Addr.add_lit, cell_of_heap hW]
    rw [List.getElem?_drop] at hj; simpa using hj
  have hm2 : (cur.toList.drop i).length = Nat.min (n - i) (n + 1 - (i + 1)) := by have := HB.out.2.1; simp only [List.length_drop, Nat.min_def]; split <;> omega
  have hfit : i + 1 + (cur.toList.drop i).length ≤ c2.toArray.size := by
    have h1 := HROW.out.2.2.1
    have h2 := HB.out.2.1
    have h3 := HB.out.2.2.2
    have h4 : cur.toList.length = cur.size := Array.length_toList
    simp [hcl]; omega
  have hone : ∀ v ∈ cur.toList.drop i, v.oneCell' = true := fun v hv => HB.out.2.2.1 v (List.mem_of_mem_drop hv)
  have HX := Aside0.mk (And.intro hh2 (And.intro hg2 (And.intro hsrc (And.intro hm2 (And.intro hfit (And.intro hone hRL))))))
  have HG2 := Aside0.mk hgr2
  clear hh2 hg2 hsrc hm2 hfit hone hRL hc2 hcl hgr2 hsz2
  have hw1 : IntKind.i64.wrap ((i : Int) + 1) = (i : Int) + 1 := by rw [IntKind.wrap_i64]; omega
  have hb1 : (0 : Int) ≤ (i : Int) + 1 := by omega
  have htn : ((i : Int) + 1).toNat = i + 1 := by omega
  go_region_law (refine step_copy_at rfl _ _ 23 23 rfl 22 Try.underlying23 insT_sz N (i + 1) (n + 1 - (i + 1)) (G - (i + 1)) ⟨g, i, none⟩ (n - i) (n - i) (by simp [Act.eval, Act.put]) (by simp [Act.eval, Act.put]) c2.toArray 22 (by exact HX.out.1) _ HX.out.2.2.2.1 (HX.out.2.2.1 _ (by exact HX.out.2.1)) HX.out.2.2.2.2.1 HX.out.2.2.2.2.2.1 ?_; intro w3 hh3 hgr3 hsz3)
  go_wp2
  go_ret
  have hfin := HX.out.2.2.2.2.2.2
  have hG1 := HROW.out.2.2
  have hNe := HNe.out
  have hB := HB.out
  have g1 := HNH.out.2.2.2
  have g2 := HG2.out
  refine ⟨_, rfl, ⟨?_, .inr ⟨N, G, _, rfl, by omega, hh3, hG1.1, hG1.2, ?_, ?_⟩⟩, ⟨hgr3.os.trans (g2.os.trans g1.os), hgr3.tape.trans (g2.tape.trans g1.tape), hgr3.output.trans (g2.output.trans g1.output), Nat.le_trans g1.size (Nat.le_trans g2.size hgr3.size), fun k hk _ => ?_⟩, .inr ⟨N, rfl, by omega⟩⟩
  · have h2 := hB.2.1
    have h3 := hB.2.2.2
    have h4 : cur.toList.length = cur.size := Array.length_toList
    unfold insL; simp; omega
  · have := hfin.2; simp at this ⊢; omega
  · have := hfin.1; simpa using this
  · have hkN : some k ≠ some N := fun e => by have := Option.some.inj e; omega
    exact (hgr3.block k (Nat.lt_of_lt_of_le hk (Nat.le_trans g1.size g2.size)) hkN).trans ((g2.block k (Nat.lt_of_lt_of_le hk g1.size) hkN).trans (g1.block k hk (by simp)))

/-- slices.Insert: one value into a row of the call's own. -/
theorem insT_calls (w : World) (base : Nat) (v : Value) (n : Nat) (xs : List Value) (hown : w.ownsRow base 22 1 v n xs) (h1 : ∀ u ∈ xs, u.oneCell' = true) (i : Nat) (hi : i ≤ n) (x : Value) (hx : x.oneCell' = true) (vb : Nat) (hvb : w.heap[vb]? = some (.cells #[x] 22 (0, 0)))
    (hbase : base ≤ w.heap.size) (hn : n ≤ 1000000) (hne : v.ownBlock ≠ some vb) :
    Calls Try.prog 78 #[v, .int .i64 i, .slice (some ⟨vb, 0, none⟩) 1 1] w (InsT w base v n (insL xs i x)) := by
  have hxl : xs.length = n := by simpa using hown.1
  by_cases hin : i = n
  · subst hin
    have e : insL xs i x = xs ++ [x] := by simp [insL, ← hxl]
    rw [e]
    exact insT_end w base v i xs hown x hx vb hvb hbase hn
  · rcases hown.2 with ⟨rfl, h0⟩ | ⟨g, cap, cur, rfl, hb, hg, hnc, hcm, hsz, htk⟩
    · omega
    · have hsz' : cur.size = cap := by simpa using hsz
      have htk' : cur.toList.take n = xs := by simpa using htk
      have hne' : vb ≠ g := fun e => hne (by simp [Value.ownBlock, e])
      by_cases hr : n + 1 ≤ cap
      · have := insT_shift w base g cap cur n i hb hg hsz' hcm (by omega) hr (by rw [htk']; exact h1) x hx vb hvb hne'
        rwa [htk'] at this
      · obtain rfl : cap = n := by omega
        have hall : cur.toList = xs := by rw [← htk']; exact (List.take_of_length_le (by simp; omega)).symm
        have := insT_grow w base g cur cap i hbase hg hsz' (by omega) hn (by rw [hall]; exact h1) x hx vb hvb
        rwa [hall] at this

end Go.Proofs.Ytcmllllbmgcnlaa.Tup

namespace Go.Proofs.Ytcmllllbmgcnlaa.Tup
open Go.RowKit Go.Lib Go.Proofs.Ytcmllllbmgcnlaa.F Go.Proofs.YtcmllllbmgcnlaaW.PrintWords Go.Proofs.YtcmllllbmgcnlaaW.PrintLast Go.Proofs.YtcmllllbmgcnlaaW.PrintMore
set_option linter.unusedVariables false
set_option linter.unusedSimpArgs false

theorem insN_info : (Try.prog.info? 63).map (fun i => (i.zero, i.size, i.bytes)) = some (some (.pointer none), 1, 8) := by kernel_rfl
theorem insN_sz : (Try.prog.info? 63).map (·.size) = some 1 := by kernel_rfl

/-- What an insertion leaves. -/
def InsN (w : World) (base : Nat) (v : Value) (n : Nat) (ys : List Value) (e : Ending) (w' : World) : Prop :=
  ∃ v', e = .returned v' ∧ w'.ownsRow base 63 1 v' (n + 1) ys ∧ w.grownBy w' v.ownBlock ∧ (v'.ownBlock = v.ownBlock ∨ ∃ g, v'.ownBlock = some g ∧ w.heap.size ≤ g)

theorem insN_shiftL {α : Type} (L : List α) (n i : Nat) (x : α) (hi : i < n) (hL : n + 1 ≤ L.length) :
    let c1 := L.take (i + 1) ++ (L.drop i).take (n - i) ++ L.drop (i + 1 + ((L.drop i).take (n - i)).length)
    let c2 := c1.take i ++ [x] ++ c1.drop (i + [x].length)
    c2.take (n + 1) = insL (L.take n) i x ∧ c2.length = L.length := by
  intro c1 c2
  have hl : ((L.drop i).take (n - i)).length = n - i := by simp; omega
  have e1 : c1.take i = L.take i := by
    show (L.take (i + 1) ++ (L.drop i).take (n - i) ++ L.drop (i + 1 + ((L.drop i).take (n - i)).length)).take i = L.take i
    rw [List.append_assoc, List.take_append_of_le_length (by simp; omega), List.take_take, Nat.min_eq_left (by omega)]
  have e2 : c1.drop (i + 1) = (L.drop i).take (n - i) ++ L.drop (i + 1 + ((L.drop i).take (n - i)).length) := by
    show (L.take (i + 1) ++ (L.drop i).take (n - i) ++ L.drop (i + 1 + ((L.drop i).take (n - i)).length)).drop (i + 1) = _
    rw [List.append_assoc]
    exact List.drop_left' (by simp; omega)
  have e3 : c2 = L.take i ++ x :: (L.drop i).take (n - i) ++ L.drop (i + 1 + (n - i)) := by
    show c1.take i ++ [x] ++ c1.drop (i + 1) = _
    rw [e1, e2, hl]; simp
  have e4 : (L.take n).drop i = (L.drop i).take (n - i) := by rw [List.drop_take]
  have e5 : (L.take n).take i = L.take i := by rw [List.take_take, Nat.min_eq_left (by omega)]
  constructor
  · rw [e3]
    unfold insL
    rw [e4, e5]
    exact List.take_left' (by simp; omega)
  · rw [e3]; simp; omega

theorem insN_growL {α : Type} (R L : List α) (n i G : Nat) (x : α) (hi : i < n) (hL : L.length = n) (hR : R.length = G) (hRt : R.take i = L.take i) (hG : n + 1 ≤ G) :
    let c2 := R.take i ++ [x] ++ R.drop (i + [x].length)
    let c3 := c2.take (i + 1) ++ L.drop i ++ c2.drop (i + 1 + (L.drop i).length)
    c3.take (n + 1) = insL L i x ∧ c3.length = G := by
  intro c2 c3
  have hl : (L.drop i).length = n - i := by simp [hL]
  have e1 : c2.take (i + 1) = L.take i ++ [x] := by
    show (R.take i ++ [x] ++ R.drop (i + 1)).take (i + 1) = _
    rw [hRt]
    exact List.take_left' (by simp [hL]; omega)
  have hc2 : c2.length = G := by
    show (R.take i ++ [x] ++ R.drop (i + 1)).length = G
    simp [hR]; omega
  have e3 : c3 = (L.take i ++ x :: L.drop i) ++ c2.drop (i + 1 + (L.drop i).length) := by
    show c2.take (i + 1) ++ L.drop i ++ c2.drop (i + 1 + (L.drop i).length) = _
    rw [e1]; simp
  constructor
  · rw [e3]
    exact List.take_left' (by simp [hL]; omega)
  · rw [e3]; simp [hc2, hL]; omega

set_option maxHeartbeats 2000000 in
set_option maxRecDepth 100000 in
/-- At the end. -/
theorem insN_end (w : World) (base : Nat) (v : Value) (n : Nat) (xs : List Value) (hown : w.ownsRow base 63 1 v n xs) (x : Value) (hx : x.oneCell' = true) (vb : Nat) (hvb : w.heap[vb]? = some (.cells #[x] 63 (0, 0)))
    (hbase : base ≤ w.heap.size) (hn : n ≤ 1000000) :
    Calls Try.prog 80 #[v, .int .i64 n, .slice (some ⟨vb, 0, none⟩) 1 1] w (InsN w base v n (xs ++ [x])) := by
  obtain ⟨i0, hi, hz0, hz1, hz2⟩ := info_parts insN_info
  have hcell : ∀ j u, [x][j]? = some u → w.cell? ((⟨vb, 0, none⟩ : Addr).add j) = some u := fun j u hj => by
    rw [Addr.add_lit, Nat.zero_add, cell_of_heap hvb]; simpa using hj
  obtain ⟨A, c, rfl⟩ : ∃ A c, v = .slice A n c := by
    rcases hown.2 with ⟨rfl, rfl⟩ | ⟨g, cap, cur, rfl, _⟩
    · exact ⟨_, _, rfl⟩
    · exact ⟨_, _, rfl⟩
  have hnc : n ≤ c := by
    rcases hown.2 with ⟨h, h2⟩ | ⟨g, cap, cur, h, _, _, h2, _⟩
    · simp at h; omega
    · simp at h; omega
  by_cases hcn : c = n
  · subst hcn
    go_enter Try.func80, Try.ntmps80
    go_wp2_with (at_builtin; refine wpList_append_own_at _ rfl _ _ 85 rfl base 63 i0 (.pointer none) 1 8 Try.underlying85 hi hz0 hz1 hz2 rfl (by decide) (.slice A c c) c xs rfl hown ⟨vb, 0, none⟩ 1 1 [x] rfl rfl hcell (by simpa using hx) (by unfold maxLen; omega) (by omega) hbase ?_; intro v' w1 hown1 hg1 _ hat1)
    go_ret
    exact ⟨_, rfl, hown1, hg1, hat1.imp id (fun h => ⟨_, h, Nat.le_refl _⟩)⟩
  · skip
    go_enter Try.func80, Try.ntmps80
    go_wp2_with (at_builtin; refine wpList_append_own_at _ rfl _ _ 85 rfl base 63 i0 (.pointer none) 1 8 Try.underlying85 hi hz0 hz1 hz2 rfl (by decide) (.slice A n c) n xs rfl hown ⟨vb, 0, none⟩ 1 1 [x] rfl rfl hcell (by simpa using hx) (by unfold maxLen; omega) (by omega) hbase ?_; intro v' w1 hown1 hg1 _ hat1)
    go_ret
    exact ⟨_, rfl, hown1, hg1, hat1.imp id (fun h => ⟨_, h, Nat.le_refl _⟩)⟩

theorem insN_over (w : World) (x : Value) (vb g i n c : Nat) (cur : Array Value) (hvb : w.heap[vb]? = some (.cells #[x] 63 (0, 0))) (hg : w.heap[g]? = some (.cells cur 63 (0, 0))) (hne : vb ≠ g) (hc : 0 < cur.size) :
    ∀ lb cb, (callFunc 91 #[.slice (some ⟨vb, 0, none⟩) 1 1, .slice (some ⟨g, i, none⟩) lb cb]).run Try.prog w = .ok (.value (.bool false)) w := fun lb cb => by
  rw [run_callFunc_extern Try.func91 (by kernel_rfl) (by kernel_rfl) (by kernel_rfl) (e := Extern.SlicesOverlaps.overlaps #[85, 85] #[4]) (by kernel_rfl),
    Lib.run_overlaps_apart w 85 4 63 Try.underlying85 1 (fun w => by kernel_rfl) ⟨vb, 0, none⟩ ⟨g, i, none⟩ 1 1 lb cb hne 63 63 1 cur.size (shape_of_heap hvb) (shape_of_heap hg) (by omega) (free_of_heap hvb 0) (free_of_heap hvb 1)]
  rfl

set_option maxHeartbeats 4000000 in
set_option maxRecDepth 100000 in
/-- In place. -/
theorem insN_shift (w : World) (base g c : Nat) (cur : Array Value) (n i : Nat) (hbg : base ≤ g) (hg : w.heap[g]? = some (.cells cur 63 (0, 0))) (hc : cur.size = c) (hc63 : c ≤ maxLen) (hin : i < n) (hroom : n + 1 ≤ c) (h1 : ∀ u ∈ cur.toList.take n, u.oneCell' = true)
    (x : Value) (hx : x.oneCell' = true) (vb : Nat) (hvb : w.heap[vb]? = some (.cells #[x] 63 (0, 0))) (hne : vb ≠ g) :
    Calls Try.prog 80 #[.slice (some ⟨g, 0, none⟩) n c, .int .i64 i, .slice (some ⟨vb, 0, none⟩) 1 1] w (InsN w base (.slice (some ⟨g, 0, none⟩) n c) n (insL (cur.toList.take n) i x)) := by
  unfold maxLen at hc63
  have hov := insN_over w x vb g (i + 1) n c cur hvb hg hne (by omega)
  have hz2 : ¬ ((i : Int) = (n : Int)) := by omega
  have hz2' : ((i : Int) == (n : Int)) = false := beq_eq_false_iff_ne.2 hz2
  have hz3 : ¬ ((c : Int) < (n : Int) + 1) := by omega
  have hb2 : ¬ (c = i + 1) := by omega
  have hb4 : ¬ (c = i) := by omega
  have hb3 : (i : Int) ≤ (n : Int) + 1 := by omega
  have hb5 : (i : Int) + 1 ≤ (n : Int) + 1 := by omega
  have hb6 : (i : Int) ≤ (n : Int) := by omega
  have hb7 : (n : Int) + 1 ≤ (c : Int) := by omega
  have htn : ((i : Int) + 1).toNat = i + 1 := by omega
  have htn2 : ((n : Int) + 1).toNat = n + 1 := by omega
  go_enter Try.func80, Try.ntmps80
  go_wp2_with (simp only [hov])
  have hxl : ((cur.toList.drop i).take (n - i)).length = n - i := by simp; omega
  have hsrc1 : ∀ W : World, W.heap[g]? = some (.cells cur 63 (0, 0)) → ∀ j v, ((cur.toList.drop i).take (n - i))[j]? = some v → W.cell? ((⟨g, i, none⟩ : Addr).add j) = some v := fun W hW j v hj => by
    rw [Addr.add_lit, cell_of_heap hW]
    rw [List.getElem?_take] at hj
    split at hj
    · rw [List.getElem?_drop] at hj; simpa using hj
    · cases hj
  have hone1 : ∀ v ∈ (cur.toList.drop i).take (n - i), v.oneCell' = true := fun v hv => by
    refine h1 v ?_
    have : (cur.toList.drop i).take (n - i) = (cur.toList.take n).drop i := by rw [List.drop_take]
    rw [this] at hv
    exact List.mem_of_mem_drop hv
  have hmn : ((cur.toList.drop i).take (n - i)).length = Nat.min (n + 1 - i) (n + 1 - (i + 1)) := by rw [hxl]; simp only [Nat.min_def]; split <;> omega
  have hfit1 : i + 1 + ((cur.toList.drop i).take (n - i)).length ≤ cur.size := by omega
  have HH := Aside0.mk (And.intro hxl (And.intro hsrc1 (And.intro hone1 (And.intro hmn hfit1))))
  have HG := Aside0.mk hg
  have HVB := Aside0.mk hvb
  have H1 := Aside0.mk h1
  have HC := Aside0.mk hc
  clear hxl hsrc1 hone1 hmn hfit1 hg hvb h1 hc
  have hw1 : IntKind.i64.wrap ((i : Int) + 1) = (i : Int) + 1 := by rw [IntKind.wrap_i64]; omega
  have hb1 : (0 : Int) ≤ (i : Int) + 1 := by omega
  go_region_law (refine step_copy_at rfl _ _ 85 85 rfl 63 Try.underlying85 insN_sz g (i + 1) (n + 1 - (i + 1)) (c - (i + 1)) ⟨g, i, none⟩ (n + 1 - i) (c - i) (by simp [Act.eval, Act.put]) (by simp [Act.eval, Act.put]) cur 63 (by exact HG.out) _ (HH.out.2.2.2.1) (HH.out.2.1 _ (by exact HG.out)) HH.out.2.2.2.2 HH.out.2.2.1 ?_; intro w1 hh1 hgr1 hsz1)
  have hvb1 : w1.heap[vb]? = some (.cells #[x] 63 (0, 0)) := by
    rw [hgr1.block vb ((Array.getElem?_eq_some_iff.1 HVB.out).1) (fun e => hne (Option.some.inj e))]; exact HVB.out
  have hcell : ∀ j u, [x][j]? = some u → w1.cell? ((⟨vb, 0, none⟩ : Addr).add j) = some u := fun j u hj => by
    rw [Addr.add_lit, Nat.zero_add, cell_of_heap hvb1]; simpa using hj
  have hmn2 : [x].length = Nat.min 1 (n + 1 - i) := by simp only [List.length_singleton, Nat.min_def]; split <;> omega
  have hL2 := insN_shiftL cur.toList n i x hin (by have := HC.out; simp; omega)
  obtain ⟨cur1, hcur1⟩ : ∃ l, l = cur.toList.take (i + 1) ++ (cur.toList.drop i).take (n - i) ++ cur.toList.drop (i + 1 + ((cur.toList.drop i).take (n - i)).length) := ⟨_, rfl⟩
  rw [← hcur1] at hh1
  simp only [← hcur1] at hL2
  have hcl : cur1.length = c := by
    have h1 := HH.out.1
    have h2 := HC.out
    rw [hcur1]; simp; omega
  have HHH := Aside0.mk (And.intro hh1 (And.intro hcell (And.intro hmn2 hL2)))
  have HCL := Aside0.mk hcl
  have HGR := Aside0.mk hgr1
  clear hh1 hvb1 hcell hmn2 hL2 hcur1 hcl hgr1 hsz1
  go_wp2_with ((with_reducible refine gate_builtin (b := .copy) (xs := #[.tmp 80, .tmp 81]) rfl ?_); refine wpList_copy_at rfl _ _ 85 85 rfl 63 Try.underlying85 insN_sz g i (n + 1 - i) (c - i) ⟨vb, 0, none⟩ 1 1 rfl rfl cur1.toArray 63 HHH.out.1 [x] HHH.out.2.2.1 HHH.out.2.1 (by have := HCL.out; simp; omega) (by simpa using hx) ?_; intro w2 hh2 hgr2 hsz2)
  go_ret
  have hfin := HHH.out.2.2.2
  have hcc := HC.out
  refine ⟨_, rfl, ⟨?_, .inr ⟨g, c, _, rfl, hbg, hh2, hroom, by unfold maxLen; omega, ?_, ?_⟩⟩, ⟨hgr2.os.trans HGR.out.os, hgr2.tape.trans HGR.out.tape, hgr2.output.trans HGR.out.output, Nat.le_trans HGR.out.size hgr2.size, fun k hk hk2 => (hgr2.block k (Nat.lt_of_lt_of_le hk HGR.out.size) hk2).trans (HGR.out.block k hk hk2)⟩, .inl rfl⟩
  · unfold insL; simp; omega
  · have := hfin.2; simp at this ⊢; omega
  · have := hfin.1; simpa using this

set_option maxHeartbeats 4000000 in
set_option maxRecDepth 100000 in
/-- No room: a new row. -/
theorem insN_grow (w : World) (base g : Nat) (cur : Array Value) (n i : Nat) (hbw : base ≤ w.heap.size) (hg : w.heap[g]? = some (.cells cur 63 (0, 0))) (hc : cur.size = n) (hin : i < n) (hn : n ≤ 1000000) (h1 : ∀ u ∈ cur.toList, u.oneCell' = true)
    (x : Value) (hx : x.oneCell' = true) (vb : Nat) (hvb : w.heap[vb]? = some (.cells #[x] 63 (0, 0))) :
    Calls Try.prog 80 #[.slice (some ⟨g, 0, none⟩) n n, .int .i64 i, .slice (some ⟨vb, 0, none⟩) 1 1] w (InsN w base (.slice (some ⟨g, 0, none⟩) n n) n (insL cur.toList i x)) := by
  obtain ⟨i0, hi0, hz0, hzs, hzb⟩ := info_parts insN_info
  have hgw := (Array.getElem?_eq_some_iff.1 hg).1
  have hvw := (Array.getElem?_eq_some_iff.1 hvb).1
  have hlen : cur.toList.length = n := by simpa using hc
  have hkk : (n : Int) + 1 - (i : Int) = ((n + 1 - i : Nat) : Int) := by omega
  have hik : i + (n + 1 - i) = n + 1 := by omega
  have hold : (Builtin.firstCells i0.size i (.slice (some ⟨g, 0, none⟩) i n)).run Try.prog w.drew = .ok (cur.toList.take i).toArray w.drew := by
    rw [hzs]
    exact run_firstCells_some w.drew 1 i ⟨g, 0, none⟩ i n (cur.toList.take i) (by rw [List.length_take]; omega) (fun j v hj => by
      rw [Addr.add_lit, Nat.zero_add]
      rw [List.getElem?_take] at hj
      split at hj
      · have : w.drew.cell? ⟨g, j, none⟩ = cur[j]? := cell_of_heap (w := w.drew) hg j
        rw [this]; simpa using hj
      · cases hj)
  have hrz : ∀ ty, (Builtin.append_ #[85, 3] ty #[.slice (some ⟨g, 0, none⟩) i n, .int .i64 ((n : Int) + 1 - (i : Int))]).run Try.prog w =
      .ok (.slice (some ⟨w.heap.size, 0, none⟩) (n + 1) (grownCap w (n + 1) n 63)) (w.drew.alloc (.cells ((cur.toList.take i).toArray ++ Builtin.zeroCells (Value.cells (.pointer none)) (n + 1 - i) ++ Builtin.zeroCells (Value.cells (.pointer none)) (grownCap w (n + 1) n 63 - (n + 1))) 63)) := fun ty => by
    have h := Lib.run_append_grow_zeros w 85 3 ty 63 i0 _ .i64 .i64 Try.underlying85 Try.underlying3 hi0 hz0 (some ⟨g, 0, none⟩) i n (cur.toList.take i) hold (n + 1 - i) (by omega) (by omega) (by omega) (by omega) (by rw [hzb]; omega) (by rw [hzb, hik]; exact growslice_fits (by omega) (by omega))
    rw [hik] at h
    rw [hkk]
    exact h
  obtain ⟨G, hG⟩ : ∃ G, G = grownCap w (n + 1) n 63 := ⟨_, rfl⟩
  obtain ⟨ROW, hROW⟩ : ∃ ROW : Array Value, ROW = (cur.toList.take i).toArray ++ Builtin.zeroCells (Value.cells (.pointer none)) (n + 1 - i) ++ Builtin.zeroCells (Value.cells (.pointer none)) (G - (n + 1)) := ⟨_, rfl⟩
  rw [← hG] at hrz
  rw [← hROW] at hrz
  have hGn : n + 1 ≤ G := by rw [hG]; exact grownCap_ge w _ _ _
  have hG63 : G ≤ maxLen := by
    have := grownCap_le_maxLen w (n + 1) n 63 (by unfold maxLen; omega)
    rw [← hG] at this
    exact this
  have hRl : ROW.size = G := by
    rw [hROW]
    simp [Builtin.zeroCells, Value.cells]
    omega
  have hRt : ROW.toList.take i = cur.toList.take i := by
    rw [hROW]
    simp only [Array.toList_append, List.append_assoc]
    rw [List.take_append_of_le_length (by simp; omega)]
    show List.take i (List.take i cur.toList) = _
    rw [List.take_take, Nat.min_self]
  obtain ⟨N, hN⟩ : ∃ N, N = w.heap.size := ⟨_, rfl⟩
  obtain ⟨W1, hW1⟩ : ∃ W1, W1 = w.drew.alloc (.cells ROW 63) := ⟨_, rfl⟩
  rw [← hW1, ← hN] at hrz
  have hNh : W1.heap[N]? = some (.cells ROW 63 (0, 0)) := by rw [hW1, hN]; exact heap_alloc_new w.drew _
  have hgr1 : w.grownBy W1 none := by
    rw [hW1]
    exact ⟨rfl, rfl, rfl, by simp [World.alloc], fun k hk _ => by
      show (w.heap.push _)[k]? = w.heap[k]?
      rw [Array.getElem?_push, if_neg (by omega)]⟩
  have hgh : W1.heap[g]? = some (.cells cur 63 (0, 0)) := (hgr1.block g hgw (by simp)).trans hg
  have hvh : W1.heap[vb]? = some (.cells #[x] 63 (0, 0)) := (hgr1.block vb hvw (by simp)).trans hvb
  have HROW := Aside0.mk (And.intro hRl (And.intro hRt (And.intro hGn hG63)))
  have HNH := Aside0.mk (And.intro hNh (And.intro hgh (And.intro hvh hgr1)))
  have HNe := Aside0.mk (show g ≠ N ∧ vb ≠ N ∧ w.heap.size = N by omega)
  have HB := Aside0.mk (And.intro hbw (And.intro hlen (And.intro h1 hin)))
  have hn63 : (n : Int) + 1 ≤ 9223372036854775807 := by omega
  have hz2 : ¬ ((i : Int) = (n : Int)) := by omega
  have hz2' : ((i : Int) == (n : Int)) = false := beq_eq_false_iff_ne.2 hz2
  have hz3 : (n : Int) < (n : Int) + 1 := by omega
  have hGi : ¬ (G = i) := by omega
  have hGim : ¬ (G = i + 1) := by omega
  have hci : ¬ (n = i) := by omega
  have hb3 : (i : Int) ≤ (n : Int) := by omega
  have hb5 : (i : Int) + 1 ≤ (n : Int) + 1 := by omega
  have hb6 : (i : Int) ≤ (n : Int) + 1 := by omega
  have hm1 : [x].length = Nat.min 1 (n + 1 - i) := by simp only [List.length_singleton, Nat.min_def]; split <;> omega
  have HM1 := Aside0.mk hm1
  clear hkk hik hold hROW hG hRl hRt hGn hG63 hN hW1 hNh hgr1 hgh hvh hlen h1 hg hvb hc hm1 hgw hvw hbw hi0 hz0 hzs hzb
  go_enter Try.func80, Try.ntmps80
  go_wp2_with (first
    | (at_builtin; refine Lib.wpList_append_run _ rfl _ _ _ _ rfl _ _ rfl rfl _ _ (hrz _) ?_)
    | ((with_reducible refine gate_builtin (b := .copy) (xs := #[.tmp 43, .tmp 44]) rfl ?_); refine wpList_copy_at rfl _ _ 85 85 rfl 63 Try.underlying85 insN_sz N i (n + 1 - i) (G - i) ⟨vb, 0, none⟩ 1 1 rfl rfl ROW 63 HNH.out.1 [x] HM1.out (fun j u hj => by rw [Addr.add_lit, Nat.zero_add, cell_of_heap HNH.out.2.2.1]; simpa using hj) (by have := HROW.out.1; have := HROW.out.2.2.1; have := HB.out.2.2.2; simp; omega) (by simpa using hx) ?_; intro w2 hh2 hgr2 hsz2))
  have hRL := insN_growL ROW.toList cur.toList n i G x HB.out.2.2.2 HB.out.2.1 (by simpa using HROW.out.1) HROW.out.2.1 HROW.out.2.2.1
  obtain ⟨c2, hc2⟩ : ∃ l, l = List.take i ROW.toList ++ [x] ++ List.drop (i + [x].length) ROW.toList := ⟨_, rfl⟩
  rw [← hc2] at hh2
  simp only [← hc2] at hRL
  have hcl : c2.length = G := by
    have h1 := HROW.out.1
    have h2 := HROW.out.2.2.1
    have h3 := HB.out.2.2.2
    rw [hc2]; simp; omega
  have hg2 : w2.heap[g]? = some (.cells cur 63 (0, 0)) := (hgr2.block g ((Array.getElem?_eq_some_iff.1 HNH.out.2.1).1) (fun e => HNe.out.1 (Option.some.inj e))).trans HNH.out.2.1
  have hsrc : ∀ W : World, W.heap[g]? = some (.cells cur 63 (0, 0)) → ∀ j v, (cur.toList.drop i)[j]? = some v → W.cell? ((⟨g, i, none⟩ : Addr).add j) = some v := fun W hW j v hj => by
    rw [Addr.add_lit, cell_of_heap hW]
    rw [List.getElem?_drop] at hj; simpa using hj
  have hm2 : (cur.toList.drop i).length = Nat.min (n - i) (n + 1 - (i + 1)) := by have := HB.out.2.1; simp only [List.length_drop, Nat.min_def]; split <;> omega
  have hfit : i + 1 + (cur.toList.drop i).length ≤ c2.toArray.size := by
    have h1 := HROW.out.2.2.1
    have h2 := HB.out.2.1
    have h3 := HB.out.2.2.2
    have h4 : cur.toList.length = cur.size := Array.length_toList
    simp [hcl]; omega
  have hone : ∀ v ∈ cur.toList.drop i, v.oneCell' = true := fun v hv => HB.out.2.2.1 v (List.mem_of_mem_drop hv)
  have HX := Aside0.mk (And.intro hh2 (And.intro hg2 (And.intro hsrc (And.intro hm2 (And.intro hfit (And.intro hone hRL))))))
  have HG2 := Aside0.mk hgr2
  clear hh2 hg2 hsrc hm2 hfit hone hRL hc2 hcl hgr2 hsz2
  have hw1 : IntKind.i64.wrap ((i : Int) + 1) = (i : Int) + 1 := by rw [IntKind.wrap_i64]; omega
  have hb1 : (0 : Int) ≤ (i : Int) + 1 := by omega
  have htn : ((i : Int) + 1).toNat = i + 1 := by omega
  go_region_law (refine step_copy_at rfl _ _ 85 85 rfl 63 Try.underlying85 insN_sz N (i + 1) (n + 1 - (i + 1)) (G - (i + 1)) ⟨g, i, none⟩ (n - i) (n - i) (by simp [Act.eval, Act.put]) (by simp [Act.eval, Act.put]) c2.toArray 63 (by exact HX.out.1) _ HX.out.2.2.2.1 (HX.out.2.2.1 _ (by exact HX.out.2.1)) HX.out.2.2.2.2.1 HX.out.2.2.2.2.2.1 ?_; intro w3 hh3 hgr3 hsz3)
  go_wp2
  go_ret
  have hfin := HX.out.2.2.2.2.2.2
  have hG1 := HROW.out.2.2
  have hNe := HNe.out
  have hB := HB.out
  have g1 := HNH.out.2.2.2
  have g2 := HG2.out
  refine ⟨_, rfl, ⟨?_, .inr ⟨N, G, _, rfl, by omega, hh3, hG1.1, hG1.2, ?_, ?_⟩⟩, ⟨hgr3.os.trans (g2.os.trans g1.os), hgr3.tape.trans (g2.tape.trans g1.tape), hgr3.output.trans (g2.output.trans g1.output), Nat.le_trans g1.size (Nat.le_trans g2.size hgr3.size), fun k hk _ => ?_⟩, .inr ⟨N, rfl, by omega⟩⟩
  · have h2 := hB.2.1
    have h3 := hB.2.2.2
    have h4 : cur.toList.length = cur.size := Array.length_toList
    unfold insL; simp; omega
  · have := hfin.2; simp at this ⊢; omega
  · have := hfin.1; simpa using this
  · have hkN : some k ≠ some N := fun e => by have := Option.some.inj e; omega
    exact (hgr3.block k (Nat.lt_of_lt_of_le hk (Nat.le_trans g1.size g2.size)) hkN).trans ((g2.block k (Nat.lt_of_lt_of_le hk g1.size) hkN).trans (g1.block k hk (by simp)))

/-- slices.Insert: one value into a row of the call's own. -/
theorem insN_calls (w : World) (base : Nat) (v : Value) (n : Nat) (xs : List Value) (hown : w.ownsRow base 63 1 v n xs) (h1 : ∀ u ∈ xs, u.oneCell' = true) (i : Nat) (hi : i ≤ n) (x : Value) (hx : x.oneCell' = true) (vb : Nat) (hvb : w.heap[vb]? = some (.cells #[x] 63 (0, 0)))
    (hbase : base ≤ w.heap.size) (hn : n ≤ 1000000) (hne : v.ownBlock ≠ some vb) :
    Calls Try.prog 80 #[v, .int .i64 i, .slice (some ⟨vb, 0, none⟩) 1 1] w (InsN w base v n (insL xs i x)) := by
  have hxl : xs.length = n := by simpa using hown.1
  by_cases hin : i = n
  · subst hin
    have e : insL xs i x = xs ++ [x] := by simp [insL, ← hxl]
    rw [e]
    exact insN_end w base v i xs hown x hx vb hvb hbase hn
  · rcases hown.2 with ⟨rfl, h0⟩ | ⟨g, cap, cur, rfl, hb, hg, hnc, hcm, hsz, htk⟩
    · omega
    · have hsz' : cur.size = cap := by simpa using hsz
      have htk' : cur.toList.take n = xs := by simpa using htk
      have hne' : vb ≠ g := fun e => hne (by simp [Value.ownBlock, e])
      by_cases hr : n + 1 ≤ cap
      · have := insN_shift w base g cap cur n i hb hg hsz' hcm (by omega) hr (by rw [htk']; exact h1) x hx vb hvb hne'
        rwa [htk'] at this
      · obtain rfl : cap = n := by omega
        have hall : cur.toList = xs := by rw [← htk']; exact (List.take_of_length_le (by simp; omega)).symm
        have := insN_grow w base g cur cap i hbase hg hsz' (by omega) hn (by rw [hall]; exact h1) x hx vb hvb
        rwa [hall] at this

end Go.Proofs.Ytcmllllbmgcnlaa.Tup

namespace Go.Proofs.Ytcmllllbmgcnlaa.Tup
open Go.RowKit Go.Lib Go.Proofs.Ytcmllllbmgcnlaa.F Go.Proofs.YtcmllllbmgcnlaaW.PrintWords Go.Proofs.YtcmllllbmgcnlaaW.PrintLast Go.Proofs.YtcmllllbmgcnlaaW.PrintMore
set_option linter.unusedVariables false
set_option linter.unusedSimpArgs false

theorem clT_info : (Try.prog.info? 22).map (fun i => (i.zero, i.size, i.bytes)) = some (some (.slice none 0 0), 1, 24) := by kernel_rfl

set_option maxHeartbeats 2000000 in
set_option maxRecDepth 100000 in
theorem clT_nil (w : World) (c : Nat) : Calls Try.prog 79 #[.slice none 0 c] w fun e w' => e = .returned (.slice none 0 0) ∧ w = w' := by
  have q22 : ∀ (w : World) (a : Option Addr) (n c : Nat), (binOp .eql 23 (.slice a n c) (.slice none 0 0)).run Try.prog w = .ok (.bool a.isNone) w := fun w a n c => Lib.run_eql_slice_nil w 23 22 a n c 0 0 Try.underlying23
  go_enter Try.func79, Try.ntmps79
  go_wp2
  go_ret
  exact ⟨rfl, rfl⟩

/-- What a clone is. -/
def ClT (w : World) (n : Nat) (xs : List Value) (e : Ending) (w' : World) : Prop :=
  ∃ v', e = .returned v' ∧ w'.ownsRow w.heap.size 22 1 v' n xs ∧ Below w.heap.size w w'

set_option maxHeartbeats 2000000 in
set_option maxRecDepth 100000 in
theorem clT_some (w : World) (ad : Addr) (n c : Nat) (xs : List Value) (hl : xs.length = n) (hcs : ∀ j u, xs[j]? = some u → w.cell? (ad.add j) = some u) (h1 : ∀ u ∈ xs, u.oneCell' = true) (hn : n * 24 ≤ 140737488351232) (hn2 : n ≤ maxLen) :
    Calls Try.prog 79 #[.slice (some ad) n c] w (ClT w n xs) := by
  obtain ⟨i0, hi, hz0, hz1, hz2⟩ := info_parts clT_info
  have hcs2 : ∀ o : Obj, ∀ j u, xs[j]? = some u → (w.alloc o).cell? (ad.add j) = some u := fun o j u hj => pw_cell_below (below_alloc (Below.refl _ _) o) (hcs j u hj)
  have HH := Aside0.mk hcs2
  have H1 := Aside0.mk h1
  have HL := Aside0.mk hl
  clear hcs hcs2 h1 hl
  have q22 : ∀ (w : World) (a : Option Addr) (n c : Nat), (binOp .eql 23 (.slice a n c) (.slice none 0 0)).run Try.prog w = .ok (.bool a.isNone) w := fun w a n c => Lib.run_eql_slice_nil w 23 22 a n c 0 0 Try.underlying23
  go_enter Try.func79, Try.ntmps79
  go_wp2_with ((with_reducible refine gate_builtin (b := .append) (xs := #[.tmp 5, .tmp 6]) rfl ?_); refine wpList_append_own_at _ rfl _ _ 23 rfl w.heap.size 22 i0 (.slice none 0 0) 1 24 Try.underlying23 hi hz0 hz1 hz2 rfl (by decide) (.slice (some ⟨w.heap.size, 0, none⟩) 0 0) 0 [] rfl ⟨rfl, .inr ⟨w.heap.size, 0, #[], rfl, Nat.le_refl _, heap_alloc_new _ _, Nat.le_refl _, Nat.zero_le _, rfl, rfl⟩⟩ ad n c xs rfl (by have := HL.out; omega) (HH.out _) H1.out (by omega) (by omega) (by simp) ?_; intro v' w1 hown1 hg1 _ hat1)
  go_ret
  refine ⟨_, rfl, by simpa using hown1, ?_⟩
  exact (below_alloc (Below.refl _ _) _).grown hg1 (by simp) (fun k hk => by cases hk; exact Nat.le_refl _)

/-- slices.Clone: nil or not. -/
theorem clT_calls (w : World) (A : Option Addr) (n c : Nat) (xs : List Value) (hl : xs.length = n) (hA : A = none → n = 0) (hcs : ∀ ad, A = some ad → ∀ j u, xs[j]? = some u → w.cell? (ad.add j) = some u) (h1 : ∀ u ∈ xs, u.oneCell' = true) (hn : n * 24 ≤ 140737488351232) (hn2 : n ≤ maxLen) :
    Calls Try.prog 79 #[.slice A n c] w (ClT w n xs) := by
  cases A with
  | none =>
    obtain rfl := hA rfl
    refine (clT_nil w c).mono ?_
    rintro e w' ⟨rfl, rfl⟩
    exact ⟨_, rfl, ⟨by simpa using hl, .inl ⟨rfl, rfl⟩⟩, Below.refl _ _⟩
  | some ad => exact clT_some w ad n c xs hl (hcs ad rfl) h1 hn hn2

end Go.Proofs.Ytcmllllbmgcnlaa.Tup

namespace Go.Proofs.Ytcmllllbmgcnlaa.Tup
open Go.RowKit Go.Lib Go.Proofs.Ytcmllllbmgcnlaa.F Go.Proofs.YtcmllllbmgcnlaaW.PrintWords Go.Proofs.YtcmllllbmgcnlaaW.PrintLast Go.Proofs.YtcmllllbmgcnlaaW.PrintMore
set_option linter.unusedVariables false
set_option linter.unusedSimpArgs false

theorem clN_info : (Try.prog.info? 63).map (fun i => (i.zero, i.size, i.bytes)) = some (some (.pointer none), 1, 8) := by kernel_rfl

set_option maxHeartbeats 2000000 in
set_option maxRecDepth 100000 in
theorem clN_nil (w : World) (c : Nat) : Calls Try.prog 77 #[.slice none 0 c] w fun e w' => e = .returned (.slice none 0 0) ∧ w = w' := by
  have q22 : ∀ (w : World) (a : Option Addr) (n c : Nat), (binOp .eql 85 (.slice a n c) (.slice none 0 0)).run Try.prog w = .ok (.bool a.isNone) w := fun w a n c => Lib.run_eql_slice_nil w 85 63 a n c 0 0 Try.underlying85
  go_enter Try.func77, Try.ntmps77
  go_wp2
  go_ret
  exact ⟨rfl, rfl⟩

/-- What a clone is. -/
def ClN (w : World) (n : Nat) (xs : List Value) (e : Ending) (w' : World) : Prop :=
  ∃ v', e = .returned v' ∧ w'.ownsRow w.heap.size 63 1 v' n xs ∧ Below w.heap.size w w'

set_option maxHeartbeats 2000000 in
set_option maxRecDepth 100000 in
theorem clN_some (w : World) (ad : Addr) (n c : Nat) (xs : List Value) (hl : xs.length = n) (hcs : ∀ j u, xs[j]? = some u → w.cell? (ad.add j) = some u) (h1 : ∀ u ∈ xs, u.oneCell' = true) (hn : n * 8 ≤ 140737488351232) (hn2 : n ≤ maxLen) :
    Calls Try.prog 77 #[.slice (some ad) n c] w (ClN w n xs) := by
  obtain ⟨i0, hi, hz0, hz1, hz2⟩ := info_parts clN_info
  have hcs2 : ∀ o : Obj, ∀ j u, xs[j]? = some u → (w.alloc o).cell? (ad.add j) = some u := fun o j u hj => pw_cell_below (below_alloc (Below.refl _ _) o) (hcs j u hj)
  have HH := Aside0.mk hcs2
  have H1 := Aside0.mk h1
  have HL := Aside0.mk hl
  clear hcs hcs2 h1 hl
  have q22 : ∀ (w : World) (a : Option Addr) (n c : Nat), (binOp .eql 85 (.slice a n c) (.slice none 0 0)).run Try.prog w = .ok (.bool a.isNone) w := fun w a n c => Lib.run_eql_slice_nil w 85 63 a n c 0 0 Try.underlying85
  go_enter Try.func77, Try.ntmps77
  go_wp2_with ((with_reducible refine gate_builtin (b := .append) (xs := #[.tmp 5, .tmp 6]) rfl ?_); refine wpList_append_own_at _ rfl _ _ 85 rfl w.heap.size 63 i0 (.pointer none) 1 8 Try.underlying85 hi hz0 hz1 hz2 rfl (by decide) (.slice (some ⟨w.heap.size, 0, none⟩) 0 0) 0 [] rfl ⟨rfl, .inr ⟨w.heap.size, 0, #[], rfl, Nat.le_refl _, heap_alloc_new _ _, Nat.le_refl _, Nat.zero_le _, rfl, rfl⟩⟩ ad n c xs rfl (by have := HL.out; omega) (HH.out _) H1.out (by omega) (by omega) (by simp) ?_; intro v' w1 hown1 hg1 _ hat1)
  go_ret
  refine ⟨_, rfl, by simpa using hown1, ?_⟩
  exact (below_alloc (Below.refl _ _) _).grown hg1 (by simp) (fun k hk => by cases hk; exact Nat.le_refl _)

/-- slices.Clone: nil or not. -/
theorem clN_calls (w : World) (A : Option Addr) (n c : Nat) (xs : List Value) (hl : xs.length = n) (hA : A = none → n = 0) (hcs : ∀ ad, A = some ad → ∀ j u, xs[j]? = some u → w.cell? (ad.add j) = some u) (h1 : ∀ u ∈ xs, u.oneCell' = true) (hn : n * 8 ≤ 140737488351232) (hn2 : n ≤ maxLen) :
    Calls Try.prog 77 #[.slice A n c] w (ClN w n xs) := by
  cases A with
  | none =>
    obtain rfl := hA rfl
    refine (clN_nil w c).mono ?_
    rintro e w' ⟨rfl, rfl⟩
    exact ⟨_, rfl, ⟨by simpa using hl, .inl ⟨rfl, rfl⟩⟩, Below.refl _ _⟩
  | some ad => exact clN_some w ad n c xs hl (hcs ad rfl) h1 hn hn2

end Go.Proofs.Ytcmllllbmgcnlaa.Tup

namespace Go.Proofs.Ytcmllllbmgcnlaa.Tup
open Go.RowKit Go.Lib Go.Proofs.Ytcmllllbmgcnlaa.F Go.Proofs.YtcmllllbmgcnlaaW.PrintWords Go.Proofs.YtcmllllbmgcnlaaW.PrintLast Go.Proofs.YtcmllllbmgcnlaaW.PrintMore
set_option linter.unusedVariables false
set_option linter.unusedSimpArgs false

theorem clI_info : (Try.prog.info? 3).map (fun i => (i.zero, i.size, i.bytes)) = some (some (.int .i64 0), 1, 8) := by kernel_rfl

set_option maxHeartbeats 2000000 in
set_option maxRecDepth 100000 in
theorem clI_nil (w : World) (c : Nat) : Calls Try.prog 47 #[.slice none 0 c] w fun e w' => e = .returned (.slice none 0 0) ∧ w = w' := by
  have q22 : ∀ (w : World) (a : Option Addr) (n c : Nat), (binOp .eql 22 (.slice a n c) (.slice none 0 0)).run Try.prog w = .ok (.bool a.isNone) w := fun w a n c => Lib.run_eql_slice_nil w 22 3 a n c 0 0 Try.underlying22
  go_enter Try.func47, Try.ntmps47
  go_wp2
  go_ret
  exact ⟨rfl, rfl⟩

/-- What a clone is. -/
def ClI (w : World) (n : Nat) (xs : List Value) (e : Ending) (w' : World) : Prop :=
  ∃ v', e = .returned v' ∧ w'.ownsRow w.heap.size 3 1 v' n xs ∧ Below w.heap.size w w'

set_option maxHeartbeats 2000000 in
set_option maxRecDepth 100000 in
theorem clI_some (w : World) (ad : Addr) (n c : Nat) (xs : List Value) (hl : xs.length = n) (hcs : ∀ j u, xs[j]? = some u → w.cell? (ad.add j) = some u) (h1 : ∀ u ∈ xs, u.oneCell' = true) (hn : n * 8 ≤ 140737488351232) (hn2 : n ≤ maxLen) :
    Calls Try.prog 47 #[.slice (some ad) n c] w (ClI w n xs) := by
  obtain ⟨i0, hi, hz0, hz1, hz2⟩ := info_parts clI_info
  have hcs2 : ∀ o : Obj, ∀ j u, xs[j]? = some u → (w.alloc o).cell? (ad.add j) = some u := fun o j u hj => pw_cell_below (below_alloc (Below.refl _ _) o) (hcs j u hj)
  have HH := Aside0.mk hcs2
  have H1 := Aside0.mk h1
  have HL := Aside0.mk hl
  clear hcs hcs2 h1 hl
  have q22 : ∀ (w : World) (a : Option Addr) (n c : Nat), (binOp .eql 22 (.slice a n c) (.slice none 0 0)).run Try.prog w = .ok (.bool a.isNone) w := fun w a n c => Lib.run_eql_slice_nil w 22 3 a n c 0 0 Try.underlying22
  go_enter Try.func47, Try.ntmps47
  go_wp2_with ((with_reducible refine gate_builtin (b := .append) (xs := #[.tmp 5, .tmp 6]) rfl ?_); refine wpList_append_own_at _ rfl _ _ 22 rfl w.heap.size 3 i0 (.int .i64 0) 1 8 Try.underlying22 hi hz0 hz1 hz2 rfl (by decide) (.slice (some ⟨w.heap.size, 0, none⟩) 0 0) 0 [] rfl ⟨rfl, .inr ⟨w.heap.size, 0, #[], rfl, Nat.le_refl _, heap_alloc_new _ _, Nat.le_refl _, Nat.zero_le _, rfl, rfl⟩⟩ ad n c xs rfl (by have := HL.out; omega) (HH.out _) H1.out (by omega) (by omega) (by simp) ?_; intro v' w1 hown1 hg1 _ hat1)
  go_ret
  refine ⟨_, rfl, by simpa using hown1, ?_⟩
  exact (below_alloc (Below.refl _ _) _).grown hg1 (by simp) (fun k hk => by cases hk; exact Nat.le_refl _)

/-- slices.Clone: nil or not. -/
theorem clI_calls (w : World) (A : Option Addr) (n c : Nat) (xs : List Value) (hl : xs.length = n) (hA : A = none → n = 0) (hcs : ∀ ad, A = some ad → ∀ j u, xs[j]? = some u → w.cell? (ad.add j) = some u) (h1 : ∀ u ∈ xs, u.oneCell' = true) (hn : n * 8 ≤ 140737488351232) (hn2 : n ≤ maxLen) :
    Calls Try.prog 47 #[.slice A n c] w (ClI w n xs) := by
  cases A with
  | none =>
    obtain rfl := hA rfl
    refine (clI_nil w c).mono ?_
    rintro e w' ⟨rfl, rfl⟩
    exact ⟨_, rfl, ⟨by simpa using hl, .inl ⟨rfl, rfl⟩⟩, Below.refl _ _⟩
  | some ad => exact clI_some w ad n c xs hl (hcs ad rfl) h1 hn hn2

end Go.Proofs.Ytcmllllbmgcnlaa.Tup

namespace Go.Proofs.Ytcmllllbmgcnlaa.Tup
open Go.RowKit Go.Proofs.Ytcmllllbmgcnlaa.F Go.Proofs.YtcmllllbmgcnlaaW.PrintWords Go.Proofs.YtcmllllbmgcnlaaW.PrintLast Go.Proofs.YtcmllllbmgcnlaaW.PrintMore
set_option linter.unusedVariables false
set_option linter.unusedSimpArgs false

abbrev Tp := List Int
/-- a is below b. -/
def Lt (o a b : Tp) : Prop := cmpL o a b < 0
instance decLt (o a b : Tp) : Decidable (Lt o a b) := by unfold Lt; infer_instance
/-- Rising. -/
def Up (o : Tp) (L : List Tp) : Prop := L.Pairwise (Lt o)

theorem Lt.trans {o a b c : Tp} (h : Lt o a b) (k : Lt o b c) : Lt o a c := by
  unfold Lt at *
  have h1 := cmpL_trans o a b c (by omega) (by omega)
  rcases Int.lt_or_eq_of_le h1 with h2 | h2
  · exact h2
  · exfalso
    have h3 := cmpL_flip o a c
    have h4 := cmpL_trans o b c a (by omega) (by omega)
    have h5 := cmpL_flip o a b
    omega
theorem Lt.irrefl {o a : Tp} (h : Lt o a a) : False := by
  unfold Lt at h
  have := (cmpL_zero o a a).2 (fun _ _ => rfl)
  omega
theorem Lt.asymm {o a b : Tp} (h : Lt o a b) (k : Lt o b a) : False := (h.trans k).irrefl
/-- Two tuples that fit: the same, or one is below the other. -/
theorem Lt.tri {o a b : Tp} (ha : Fit o a) (hb : Fit o b) : Lt o a b ∨ a = b ∨ Lt o b a := by
  unfold Lt
  have h1 := cmpL_flip o a b
  by_cases h : cmpL o a b = 0
  · exact .inr (.inl (same_of_order ha hb ((cmpL_zero o a b).1 h)))
  · omega

/-- A tree of nodes: each has tuples, rising, and, if it is no leaf, one more child than tuples. -/
inductive BT where
  | mk (ts : List Tp) (kids : List BT)
def weave : List (List Tp) → List Tp → List Tp
  | [], ts => ts
  | k :: _, [] => k
  | k :: ks, t :: ts => k ++ t :: weave ks ts
mutual
def BT.io : BT → List Tp
  | .mk ts kids => weave (BT.ios kids) ts
def BT.ios : List BT → List (List Tp)
  | [] => []
  | k :: ks => k.io :: BT.ios ks
end
mutual
def BT.Ok : BT → Prop
  | .mk ts kids => (kids = [] ∨ kids.length = ts.length + 1) ∧ BT.Oks kids
def BT.Oks : List BT → Prop
  | [] => True
  | k :: ks => k.Ok ∧ BT.Oks ks
end
theorem BT.ios_eq (kids : List BT) : BT.ios kids = kids.map BT.io := by
  induction kids with
  | nil => rfl
  | cons k ks ih => simp [BT.ios, ih]
theorem BT.io_mk (ts : List Tp) (kids : List BT) : (BT.mk ts kids).io = weave (kids.map BT.io) ts := by rw [BT.io, BT.ios_eq]
theorem BT.oks_iff (kids : List BT) : BT.Oks kids ↔ ∀ k ∈ kids, k.Ok := by
  induction kids with
  | nil => simp [BT.Oks]
  | cons k ks ih => simp [BT.Oks, ih]
theorem BT.ok_mk (ts : List Tp) (kids : List BT) : (BT.mk ts kids).Ok ↔ (kids = [] ∨ kids.length = ts.length + 1) ∧ ∀ k ∈ kids, k.Ok := by rw [BT.Ok, BT.oks_iff]

/-- What comes ahead of child i, and behind it. -/
def ahead : List (List Tp) → List Tp → Nat → List Tp
  | k :: ks, t :: ts, i + 1 => k ++ t :: ahead ks ts i
  | _, _, _ => []
def behind0 : List (List Tp) → List Tp → List Tp
  | k :: ks, t :: ts => t :: (k ++ behind0 ks ts)
  | _, _ => []
def behind (ks : List (List Tp)) (ts : List Tp) (i : Nat) : List Tp := behind0 (ks.drop (i + 1)) (ts.drop i)

theorem weave_zero (k : List Tp) (ks : List (List Tp)) (ts : List Tp) (h : ks.length = ts.length) : weave (k :: ks) ts = k ++ behind0 ks ts := by
  induction ts generalizing k ks with
  | nil => cases ks with
    | nil => simp [weave, behind0]
    | cons => simp at h
  | cons t ts ih => cases ks with
    | nil => simp at h
    | cons k2 ks => simp only [weave, behind0]; rw [ih k2 ks (by simpa using h)]
theorem weave_at (ks : List (List Tp)) (ts : List Tp) (i : Nat) (h : ks.length = ts.length + 1) (hi : i ≤ ts.length) : weave ks ts = ahead ks ts i ++ ((ks[i]?.getD []) ++ behind ks ts i) := by
  induction i generalizing ks ts with
  | zero => cases ks with
    | nil => simp at h
    | cons k ks =>
      have e := weave_zero k ks ts (by simpa using h)
      cases ts <;> simpa [ahead, behind] using e
  | succ i ih => cases ks with
    | nil => simp at h
    | cons k ks => cases ts with
      | nil => simp at hi
      | cons t ts =>
        simp only [weave, ahead]
        rw [ih ks ts (by simpa using h) (by simpa using hi)]
        simp [behind]
/-- Other lists from i on do not turn what is ahead. -/
theorem ahead_take (ks : List (List Tp)) (ts : List Tp) (i : Nat) : ahead ks ts i = ahead (ks.take i) (ts.take i) i := by
  induction i generalizing ks ts with
  | zero => simp [ahead]
  | succ i ih => cases ks with
    | nil => simp [ahead]
    | cons k ks => cases ts with
      | nil => simp [ahead]
      | cons t ts => simp only [ahead, List.take_succ_cons]; rw [ih]
theorem ahead_mem_ts (ks : List (List Tp)) (ts : List Tp) (i : Nat) (hk : i ≤ ks.length) (hi : i ≤ ts.length) (t : Tp) (h : t ∈ ts.take i) : t ∈ ahead ks ts i := by
  induction i generalizing ks ts with
  | zero => simp at h
  | succ i ih => cases ks with
    | nil => simp at hk
    | cons k ks => cases ts with
      | nil => simp at hi
      | cons u ts =>
        simp only [List.take_succ_cons, List.mem_cons] at h
        simp only [ahead, List.mem_append, List.mem_cons]
        rcases h with h | h
        · exact .inr (.inl h)
        · exact .inr (.inr (ih ks ts (by simpa using hk) (by simpa using hi) h))
theorem behind0_mem_ts (ks : List (List Tp)) (ts : List Tp) (h : ks.length = ts.length) (t : Tp) (ht : t ∈ ts) : t ∈ behind0 ks ts := by
  induction ts generalizing ks with
  | nil => simp at ht
  | cons u ts ih => cases ks with
    | nil => simp at h
    | cons k ks =>
      simp only [behind0, List.mem_cons, List.mem_append] at ht ⊢
      rcases ht with ht | ht
      · exact .inl ht
      · exact .inr (.inr (ih ks (by simpa using h) ht))
theorem weave_mem_ts (ks : List (List Tp)) (ts : List Tp) (h : ks = [] ∨ ks.length = ts.length + 1) (t : Tp) (ht : t ∈ ts) : t ∈ weave ks ts := by
  rcases h with rfl | h
  · simpa [weave] using ht
  · rw [weave_at ks ts ts.length h (Nat.le_refl _)]
    exact List.mem_append_left _ (ahead_mem_ts ks ts ts.length (by omega) (Nat.le_refl _) t (by simpa using ht))
theorem weave_ts_sub (ks : List (List Tp)) (ts : List Tp) (h : ks = [] ∨ ks.length = ts.length + 1) : ts.Sublist (weave ks ts) := by
  induction ts generalizing ks with
  | nil => simp
  | cons t ts ih =>
    rcases h with rfl | h
    · simp [weave]
    · cases ks with
      | nil => simp at h
      | cons k ks =>
        simp only [weave]
        exact ((ih ks (by right; simpa using h)).cons_cons t).trans (List.sublist_append_right _ _)
theorem weave_len (ks : List (List Tp)) (ts : List Tp) (h : ks = [] ∨ ks.length = ts.length + 1) : ts.length ≤ (weave ks ts).length := (weave_ts_sub ks ts h).length_le

/-- A node's own tuples rise, and so do its children's. -/
theorem Up.ts {o : Tp} {ks : List (List Tp)} {ts : List Tp} (h : ks = [] ∨ ks.length = ts.length + 1) (hu : Up o (weave ks ts)) : Up o ts := hu.sublist (weave_ts_sub ks ts h)

/-- Where a tuple belongs among rising ones. -/
def idx (o : Tp) (ts : List Tp) (t : Tp) : Nat := (ts.takeWhile fun a => decide (Lt o a t)).length
theorem idx_le (o : Tp) (ts : List Tp) (t : Tp) : idx o ts t ≤ ts.length := (List.takeWhile_prefix _).length_le
theorem idx_lt {o : Tp} {ts : List Tp} {t : Tp} {j : Nat} (h : j < idx o ts t) (hj : j < ts.length) : Lt o ts[j] t := by
  induction ts generalizing j with
  | nil => simp at hj
  | cons a ts ih =>
    by_cases hl : Lt o a t
    · have e : idx o (a :: ts) t = idx o ts t + 1 := by simp [idx, hl]
      cases j with
      | zero => exact hl
      | succ j => exact ih (by omega) (by simpa using hj)
    · have e : idx o (a :: ts) t = 0 := by simp [idx, hl]
      omega
theorem idx_at {o : Tp} {ts : List Tp} {t : Tp} (hi : idx o ts t < ts.length) : ¬ Lt o (ts[idx o ts t]) t := by
  induction ts with
  | nil => simp at hi
  | cons a ts ih =>
    by_cases h : Lt o a t
    · have e : idx o (a :: ts) t = idx o ts t + 1 := by simp [idx, h]
      rw [e] at hi
      simp only [e, List.getElem_cons_succ]
      exact ih (by simpa using hi)
    · have e : idx o (a :: ts) t = 0 := by simp [idx, h]
      simp only [e, List.getElem_cons_zero]
      exact h
theorem idx_ge {o : Tp} {ts : List Tp} {t : Tp} (hu : Up o ts) {j : Nat} (h : idx o ts t ≤ j) (hj : j < ts.length) : ¬ Lt o ts[j] t := by
  by_cases e : idx o ts t = j
  · subst e; exact idx_at hj
  · intro hl
    have h1 := List.pairwise_iff_getElem.1 hu (idx o ts t) j (by omega) hj (by omega)
    exact idx_at (by omega) (h1.trans hl)
/-- It is told by its two neighbours. -/
theorem idx_unique {o : Tp} {ts : List Tp} {t : Tp} (hu : Up o ts) (i : Nat) (hi : i ≤ ts.length) (h1 : ∀ j (hj : j < ts.length), j < i → Lt o ts[j] t) (h2 : ∀ j (hj : j < ts.length), i ≤ j → ¬ Lt o ts[j] t) : i = idx o ts t := by
  by_cases h : i < idx o ts t
  · exact absurd (idx_lt h (by have := idx_le o ts t; omega)) (h2 i (by have := idx_le o ts t; omega) (Nat.le_refl _))
  · by_cases h' : idx o ts t < i
    · exact absurd (h1 _ (by omega) h') (idx_at (by omega))
    · omega

/-- A tuple more. -/
def insO (o : Tp) (t : Tp) (L : List Tp) : List Tp := L.take (idx o L t) ++ t :: L.drop (idx o L t)
theorem insO_append (o t : Tp) (X Y Z : List Tp) (hX : ∀ a ∈ X, Lt o a t) (hZ : ∀ a ∈ Z, ¬ Lt o a t) : insO o t (X ++ (Y ++ Z)) = X ++ (insO o t Y ++ Z) := by
  have e : idx o (X ++ (Y ++ Z)) t = X.length + idx o Y t := by
    unfold idx
    rw [List.takeWhile_append_of_pos (fun a ha => by simpa using hX a ha), List.length_append]
    congr 1
    induction Y with
    | nil =>
      cases Z with
      | nil => rfl
      | cons z Z => simp [hZ z (by simp)]
    | cons y Y ih =>
      by_cases h : Lt o y t
      · simp [h, ih]
      · simp [h]
  unfold insO
  rw [e, List.take_length_add_append, List.drop_length_add_append, List.take_append_of_le_length (idx_le o Y t), List.drop_append_of_le_length (idx_le o Y t)]
  simp
theorem insO_len (o t : Tp) (L : List Tp) : (insO o t L).length = L.length + 1 := by
  have := idx_le o L t
  simp [insO]; omega
theorem insO_mem (o t : Tp) (L : List Tp) (a : Tp) : a ∈ insO o t L ↔ a = t ∨ a ∈ L := by
  unfold insO
  rw [List.mem_append, List.mem_cons]
  constructor
  · rintro (h | h | h)
    · exact .inr (List.mem_of_mem_take h)
    · exact .inl h
    · exact .inr (List.mem_of_mem_drop h)
  · rintro (h | h)
    · exact .inr (.inl h)
    · rw [← List.take_append_drop (idx o L t) L, List.mem_append] at h
      rcases h with h | h
      · exact .inl h
      · exact .inr (.inr h)
theorem insO_up {o t : Tp} {L : List Tp} (hu : Up o L) (ht : Fit o t) (hL : ∀ a ∈ L, Fit o a) (hn : t ∉ L) : Up o (insO o t L) := by
  have hlt : ∀ a ∈ L.take (idx o L t), Lt o a t := fun a ha => by
    obtain ⟨j, hj, rfl⟩ := List.getElem_of_mem ha
    have hj2 : j < idx o L t := by simp at hj; omega
    rw [List.getElem_take]
    exact idx_lt hj2 _
  have hge : ∀ a ∈ L.drop (idx o L t), Lt o t a := fun a ha => by
    obtain ⟨j, hj, rfl⟩ := List.getElem_of_mem ha
    rw [List.getElem_drop]
    have hj2 : idx o L t + j < L.length := by simp at hj; omega
    have h1 := idx_ge (t := t) hu (j := idx o L t + j) (by omega) hj2
    have hm : L[idx o L t + j] ∈ L := List.getElem_mem _
    rcases Lt.tri (hL _ hm) ht with h | h | h
    · exact absurd h h1
    · exact absurd (h ▸ hm) hn
    · exact h
  unfold Up insO
  rw [List.pairwise_append, List.pairwise_cons]
  refine ⟨hu.sublist (List.take_sublist _ _), ⟨hge, hu.sublist (List.drop_sublist _ _)⟩, fun a ha b hb => ?_⟩
  rcases List.mem_cons.1 hb with rfl | hb
  · exact hlt a ha
  · exact (hlt a ha).trans (hge b hb)

/-- The children around a tuple that is none of the node's own. -/
theorem around {o t : Tp} {ks : List (List Tp)} {ts : List Tp} (h : ks.length = ts.length + 1) (hu : Up o (weave ks ts)) (hf : ∀ a ∈ weave ks ts, Fit o a) (ht : Fit o t) (hn : t ∉ ts) :
    (∀ a ∈ ahead ks ts (idx o ts t), Lt o a t) ∧ (∀ a ∈ behind ks ts (idx o ts t), Lt o t a) := by
  have hi := idx_le o ts t
  have hut := Up.ts (.inr h) hu
  have e := weave_at ks ts (idx o ts t) h hi
  rw [e] at hu
  unfold Up at hu
  rw [List.pairwise_append, List.pairwise_append] at hu
  obtain ⟨hA, ⟨hK, hB, hKB⟩, hAB⟩ := hu
  constructor
  · intro a ha
    by_cases h0 : idx o ts t = 0
    · rw [h0] at ha; simp [ahead] at ha
    · -- the last tuple ahead
      obtain ⟨j, hj⟩ : ∃ j, idx o ts t = j + 1 := ⟨idx o ts t - 1, by omega⟩
      have hjl : j < ts.length := by omega
      have h1 : Lt o ts[j] t := idx_lt (by omega) hjl
      have hlast : ∀ (ks : List (List Tp)) (ts : List Tp) (j : Nat) (hj : j < ts.length), j < ks.length → ∃ X, ahead ks ts (j + 1) = X ++ [ts[j]] := by
        intro ks ts j
        induction j generalizing ks ts with
        | zero =>
          intro hj hk
          match ks, ts with
          | k :: ks, t :: ts => exact ⟨k, by simp [ahead]⟩
        | succ j ih =>
          intro hj hk
          match ks, ts with
          | k :: ks, t :: ts =>
            obtain ⟨X, hX⟩ := ih ks ts (by simpa using hj) (by simpa using hk)
            exact ⟨k ++ t :: X, by simp only [ahead, hX]; simp⟩
      obtain ⟨X, hX⟩ := hlast ks ts j hjl (by omega)
      rw [hj, hX] at ha hA
      rw [List.mem_append] at ha
      rcases ha with ha | ha
      · exact ((List.pairwise_append.1 hA).2.2 a ha _ (by simp)).trans h1
      · simp at ha; subst ha; exact h1
  · intro a ha
    by_cases hl : idx o ts t < ts.length
    · have h1 := idx_at hl
      have hm : ts[idx o ts t] ∈ weave ks ts := weave_mem_ts ks ts (.inr h) _ (List.getElem_mem _)
      have h2 : Lt o t ts[idx o ts t] := by
        rcases Lt.tri (hf _ hm) ht with h | h | h
        · exact absurd h h1
        · exact absurd (h ▸ List.getElem_mem _) hn
        · exact h
      have hfirst : ∃ X, behind ks ts (idx o ts t) = ts[idx o ts t] :: X := by
        unfold behind
        rw [List.drop_eq_getElem_cons hl]
        match hk : ks.drop (idx o ts t + 1) with
        | [] => rw [List.drop_eq_nil_iff] at hk; omega
        | k :: r => exact ⟨_, rfl⟩
      obtain ⟨X, hX⟩ := hfirst
      rw [hX] at ha hB
      rcases List.mem_cons.1 ha with rfl | ha
      · exact h2
      · exact h2.trans ((List.pairwise_cons.1 hB).1 a ha)
    · have : ts.drop (idx o ts t) = [] := List.drop_eq_nil_of_le (by omega)
      unfold behind at ha
      rw [this] at ha
      cases hk : ks.drop (idx o ts t + 1) <;> rw [hk] at ha <;> simp [behind0] at ha

end Go.Proofs.Ytcmllllbmgcnlaa.Tup

namespace Go.Proofs.Ytcmllllbmgcnlaa.Tup
open Go.RowKit Go.Proofs.Ytcmllllbmgcnlaa.F Go.Proofs.YtcmllllbmgcnlaaW.PrintWords Go.Proofs.YtcmllllbmgcnlaaW.PrintLast Go.Proofs.YtcmllllbmgcnlaaW.PrintMore
set_option linter.unusedVariables false
set_option linter.unusedSimpArgs false

/-- A node's number as a pointer. -/
def KN : Kd Nat := Kd.scalar (fun b => Value.pointer (some ⟨b, 0, none⟩)) (fun _ => rfl)
/-- A tuple. -/
abbrev KT : Kd (List Int) := Kd.slice 3 (Kd.int .i64)

/-- Tuple i of a row of tuples. -/
theorem tup_at {W : World} {A : Option Addr} {n : Nat} {ts : List Tp} (h : Kd.C KT W A n ts) (i : Nat) (hi : i < ts.length) :
    ∃ ad Ai ci, A = some ad ∧ W.cell? (ad.add i) = some (.slice Ai (ts[i]).length ci) ∧ Sl W Ai ci ts[i] := by
  have hn : ts.length = n := h.1
  obtain ⟨ad, c, e, hl, hK, hc⟩ := Kd.C_get h ([] : List Int) (i : Int) (by omega) (by omega)
  have eg : ts.getD ((i : Int)).toNat [] = ts[i] := by simp [hi]
  rw [eg] at hK
  obtain ⟨Ai, ci, rfl, hle, hC⟩ := hK
  refine ⟨ad, Ai, ci, e, ?_, hC, hle⟩
  have := hc 0 _ rfl
  simpa [Kd.slice] using this
/-- Child i of a row of nodes. -/
theorem nod_at {W : World} {A : Option Addr} {n : Nat} {ps : List Nat} (h : Kd.C KN W A n ps) (i : Nat) (hi : i < ps.length) :
    ∃ ad, A = some ad ∧ W.cell? (ad.add i) = some (.pointer (some ⟨ps[i], 0, none⟩)) := by
  have hn : ps.length = n := h.1
  obtain ⟨ad, c, e, hl, hK, hc⟩ := Kd.C_get h (0 : Nat) (i : Int) (by omega) (by omega)
  have eg : ps.getD ((i : Int)).toNat 0 = ps[i] := by simp [hi]
  rw [eg] at hK
  have hK' : c = [Value.pointer (some ⟨ps[i], 0, none⟩)] := hK
  refine ⟨ad, e, ?_⟩
  have := hc 0 _ (by rw [hK']; rfl)
  simpa [KN, Kd.scalar] using this

/-- A node in memory, and all below it; what it leads to lies in ok. -/
inductive NodeF (ok : Nat → Prop) (W : World) : Nat → BT → Prop
  | mk (b : Nat) (A0 : Option Addr) (c0 : Nat) (A1 : Option Addr) (c1 : Nat) (ts : List Tp) (kids : List BT) (ps : List Nat) (hok : ok b)
    (h0 : W.cell? ⟨b, 0, none⟩ = some (.slice A0 ts.length c0)) (h1 : W.cell? ⟨b, 1, none⟩ = some (.slice A1 ps.length c1)) (hc0 : ts.length ≤ c0) (hc1 : ps.length ≤ c1) (hl : ps.length = kids.length)
    (hT : Kd.F KT W ok A0 ts.length ts) (hN : Kd.F KN W ok A1 ps.length ps) (hk : ∀ (i : Nat) (h : i < kids.length) (h' : i < ps.length), NodeF ok W ps[i] kids[i]) : NodeF ok W b (.mk ts kids)

theorem cell_step {ok : Nat → Prop} {W W1 : World} (hm : ∀ k, ok k → k < W.heap.size → W1.heap[k]? = W.heap[k]?) {b j : Nat} {v : Value} (hok : ok b) (h : W.cell? ⟨b, j, none⟩ = some v) : W1.cell? ⟨b, j, none⟩ = some v := by
  have hb := hm b hok (World.block_lt_of_cell? W _ h)
  rw [← h]; simp [World.cell?, hb]
theorem NodeF.step {ok : Nat → Prop} {W W1 : World} (hm : ∀ k, ok k → k < W.heap.size → W1.heap[k]? = W.heap[k]?) {b : Nat} {T : BT} (h : NodeF ok W b T) : NodeF ok W1 b T := by
  induction h with
  | mk b A0 c0 A1 c1 ts kids ps hok h0 h1 hc0 hc1 hl hT hN hk ih =>
    exact .mk b A0 c0 A1 c1 ts kids ps hok (cell_step hm hok h0) (cell_step hm hok h1) hc0 hc1 hl (Kd.F_step hT hm) (Kd.F_step hN hm) ih
theorem NodeF.under {ok : Nat → Prop} {W W1 : World} {b : Nat} {T : BT} (h : NodeF ok W b T) (hb : Below W.heap.size W W1) : NodeF ok W1 b T := h.step fun k _ hk => hb.block k hk
theorem NodeF.mono {ok ok' : Nat → Prop} {W : World} (hm : ∀ k, ok k → ok' k) {b : Nat} {T : BT} (h : NodeF ok W b T) : NodeF ok' W b T := by
  induction h with
  | mk b A0 c0 A1 c1 ts kids ps hok h0 h1 hc0 hc1 hl hT hN hk ih =>
    exact .mk b A0 c0 A1 c1 ts kids ps (hm _ hok) h0 h1 hc0 hc1 hl (Kd.F_mono hT hm) (Kd.F_mono hN hm) ih

theorem cmpS_fit {o a b : Tp} (ha : Fit o a) (hb : Fit o b) : cmpS o a b = cmpL o a b := by unfold cmpS; rw [if_pos ⟨ha, hb⟩]

set_option maxHeartbeats 1000000 in
set_option maxRecDepth 100000 in
/-- The closure that compares by a set's order. -/
theorem cmpf_calls (W : World) (bx bs : Nat) (Ao : Option Addr) (co : Nat) (o : Tp) (hx : W.cell? ⟨bx, 0, none⟩ = some (.pointer (some ⟨bs, 0, none⟩))) (hs : W.cell? ⟨bs, 1, none⟩ = some (.slice Ao o.length co)) (so : Sl W Ao co o)
    (Aa : Option Addr) (ca : Nat) (a : Tp) (sa : Sl W Aa ca a) (At : Option Addr) (ct : Nat) (t : Tp) (st : Sl W At ct t) :
    Calls Try.prog 82 #[.slice Aa a.length ca, .slice At t.length ct, .pointer (some ⟨bx, 0, none⟩)] W fun e w' => e = .returned (.int .i64 (cmpS o a t)) ∧ Below W.heap.size W w' := by
  go_enter Try.func82, Try.ntmps82
  go_wp2_with (go_at_call 65; refine (cmp_calls Ao co o Aa ca a At ct t _ so sa st).mono ?_; rintro e w' ⟨rfl, hb⟩)
  go_ret
  exact ⟨rfl, hb⟩

set_option maxHeartbeats 2000000 in
set_option maxRecDepth 100000 in
/-- slices.BinarySearchFunc by that closure. -/
theorem bsf_calls (W : World) (bx bs : Nat) (Ao : Option Addr) (co : Nat) (o : Tp) (hx : W.cell? ⟨bx, 0, none⟩ = some (.pointer (some ⟨bs, 0, none⟩))) (hs : W.cell? ⟨bs, 1, none⟩ = some (.slice Ao o.length co)) (so : Sl W Ao co o)
    (A : Option Addr) (c : Nat) (ts : List Tp) (hT : Kd.C KT W A ts.length ts) (hn : ts.length ≤ 1000000) (hc : ts.length ≤ c) (hfit : ∀ a ∈ ts, Fit o a) (hup : Up o ts) (At : Option Addr) (ct : Nat) (t : Tp) (st : Sl W At ct t) (hft : Fit o t) :
    Calls Try.prog 81 #[.slice A ts.length c, .slice At t.length ct, .func (.func 82) #[] #[.pointer (some ⟨bx, 0, none⟩)]] W fun e w' =>
      e = .returned (.tuple #[.int .i64 (idx o ts t), .bool (decide (t ∈ ts))]) ∧ Below W.heap.size W w' := by
  obtain ⟨n, hnn⟩ : ∃ n, n = ts.length := ⟨_, rfl⟩
  have HS := Aside0.mk (Since.refl W)
  have HT := Aside0.mk hT
  have HX := Aside0.mk hx
  have HSS := Aside0.mk hs
  have HF := Aside0.mk hfit
  have HU := Aside0.mk hup
  rw [← hnn] at hn hc ⊢
  have HN := Aside0.mk hnn
  clear hT hx hs hfit hup hnn
  go_enter Try.func81, Try.ntmps81
  go_wp2
  go_loopg [9, 10] n (fun gk v9 v10 w' => ∃ i j : Nat, v9 = .int .i64 (i : Int) ∧ v10 = .int .i64 (j : Int) ∧ Aside0 (i + gk = j) ∧ j ≤ n ∧ Aside0 (∀ (k : Nat) (hk : k < ts.length), k < i → Lt o ts[k] t) ∧ Aside0 (∀ (k : Nat) (hk : k < ts.length), j ≤ k → ¬ Lt o ts[k] t) ∧ Aside0 (Since W w'))
  case atStart => exact ⟨0, n, by simp, by simp, ⟨by omega⟩, Nat.le_refl _, ⟨fun k hk h => by omega⟩, ⟨fun k hk h => by have := HN.out; omega⟩, HS⟩
  case round =>
    obtain ⟨i, j, rfl, rfl, HI, hj, HA, HB, HW⟩ := hrel
    clear HS
    by_cases hlt : i < j
    · have hm1 : (i + j) / 2 < n := by omega
      have hm2 : i ≤ (i + j) / 2 := by omega
      have hm3 : (i + j) / 2 < j := by omega
      obtain ⟨m, hm⟩ : ∃ m, m = (i + j) / 2 := ⟨_, rfl⟩
      have HM := Aside0.mk hm
      rw [← hm] at hm1 hm2 hm3
      have hq : ((i : Int) + (j : Int)) / 2 = (m : Int) := by omega
      have hms : m < ts.length := by have := HN.out; omega
      obtain ⟨ad, Ai, ci, rfl, hcell, sl⟩ := tup_at (Kd.C_below HT.out HW.out.b) m hms
      clear hm
      have hcx : wr.cell? ⟨bx, 0, none⟩ = some (.pointer (some ⟨bs, 0, none⟩)) := pw_cell_below HW.out.b HX.out
      have hcs : wr.cell? ⟨bs, 1, none⟩ = some (.slice Ao o.length co) := pw_cell_below HW.out.b HSS.out
      have hfa : Fit o ts[m] := HF.out _ (List.getElem_mem _)
      obtain ⟨a, ha⟩ : ∃ a, a = ts[m] := ⟨_, rfl⟩
      rw [← ha] at hcell sl hfa
      have HAA := Aside0.mk ha
      have HFA := Aside0.mk hfa
      clear ha hfa
      by_cases hl : Lt o a t
      · have hlt2 : cmpL o a t < 0 := hl
        go_wp2_with (go_at_call 82; refine (cmpf_calls _ bx bs Ao co o hcx hcs (HW.out.sl so) Ai ci a sl At ct t (HW.out.sl st)).mono ?_; rintro e w1 ⟨rfl, hb⟩; rw [cmpS_fit HFA.out hft]; have HW1 := Aside0.mk (HW.out.step hb); clear hb)
        obtain ⟨k2, hk2⟩ : ∃ k2, k2 = j - (m + 1) := ⟨_, rfl⟩
        go_roundg k2
        case measure => have := HI.out; omega
        case rel => exact ⟨m + 1, j, by go_num, rfl, ⟨by omega⟩, hj, ⟨fun k hk h => by
          by_cases hkm : k = m
          · subst hkm; rw [← HAA.out]; exact hl
          · have h2 := List.pairwise_iff_getElem.1 HU.out k m hk hms (by omega)
            rw [← HAA.out] at h2
            exact h2.trans hl⟩, HB, HW1⟩
      · have hlt2 : ¬ cmpL o a t < 0 := hl
        go_wp2_with (go_at_call 82; refine (cmpf_calls _ bx bs Ao co o hcx hcs (HW.out.sl so) Ai ci a sl At ct t (HW.out.sl st)).mono ?_; rintro e w1 ⟨rfl, hb⟩; rw [cmpS_fit HFA.out hft]; have HW1 := Aside0.mk (HW.out.step hb); clear hb)
        obtain ⟨k2, hk2⟩ : ∃ k2, k2 = m - i := ⟨_, rfl⟩
        go_roundg k2
        case measure => have := HI.out; omega
        case rel => exact ⟨i, m, rfl, rfl, ⟨by omega⟩, by omega, HA, ⟨fun k hk h hc => by
          by_cases hkm : k = m
          · subst hkm; rw [← HAA.out] at hc; exact hl hc
          · have h2 := List.pairwise_iff_getElem.1 HU.out m k hms hk (by omega)
            rw [← HAA.out] at h2
            exact hl (h2.trans hc)⟩, HW1⟩
    · have hij : i = j := by have := HI.out; omega
      have HU2 := Aside0.mk (idx_unique HU.out i (by have := HN.out; omega) HA.out (by rw [hij]; exact HB.out))
      clear hij
      by_cases hin : i < n
      · have his : i < ts.length := by have := HN.out; omega
        obtain ⟨ad, Ai, ci, rfl, hcell, sl⟩ := tup_at (Kd.C_below HT.out HW.out.b) i his
        have hcx : wr.cell? ⟨bx, 0, none⟩ = some (.pointer (some ⟨bs, 0, none⟩)) := pw_cell_below HW.out.b HX.out
        have hcs : wr.cell? ⟨bs, 1, none⟩ = some (.slice Ao o.length co) := pw_cell_below HW.out.b HSS.out
        have hfa : Fit o ts[i] := HF.out _ (List.getElem_mem _)
        obtain ⟨a, ha⟩ : ∃ a, a = ts[i] := ⟨_, rfl⟩
        rw [← ha] at hcell sl hfa
        have HAA := Aside0.mk ha
        have HFA := Aside0.mk hfa
        clear ha hfa
        have hiff : t ∈ ts ↔ cmpL o a t = 0 := by
          constructor
          · intro hm
            obtain ⟨k, hk, rfl⟩ := List.getElem_of_mem hm
            have h1 : k = i := by
              apply Classical.byContradiction
              intro hne
              by_cases hki : k < i
              · exact (HA.out k hk hki).irrefl
              · have h2 := List.pairwise_iff_getElem.1 HU.out i k his hk (by omega)
                have h3 := HU2.out
                have h4 := idx_at (o := o) (ts := ts) (t := ts[k]) (by rw [← h3]; exact his)
                simp only [← h3] at h4
                exact h4 h2
            subst h1
            rw [HAA.out]; exact (cmpL_zero o _ _).2 (fun _ _ => rfl)
          · intro hc
            have := same_of_order HFA.out hft ((cmpL_zero o a t).1 hc)
            rw [← this, HAA.out]; exact List.getElem_mem _
        have HIF := Aside0.mk hiff
        clear hiff
        by_cases hz : cmpL o a t = 0
        · have hzb : (cmpL o a t == 0) = true := beq_iff_eq.2 hz
          have HMM := Aside0.mk (HIF.out.2 hz)
          clear hz
          go_wp2_with (go_at_call 82; refine (cmpf_calls _ bx bs Ao co o hcx hcs (HW.out.sl so) Ai ci a sl At ct t (HW.out.sl st)).mono ?_; rintro e w1 ⟨rfl, hb⟩; rw [cmpS_fit HFA.out hft]; have HW1 := Aside0.mk (HW.out.step hb); clear hb)
          go_ret2
          exact ⟨by rw [← HU2.out, decide_eq_true HMM.out]; rfl, HW1.out.b⟩
        · have hzb : (cmpL o a t == 0) = false := beq_eq_false_iff_ne.2 hz
          have HMM := Aside0.mk (fun h => hz (HIF.out.1 h))
          clear hz
          go_wp2_with (go_at_call 82; refine (cmpf_calls _ bx bs Ao co o hcx hcs (HW.out.sl so) Ai ci a sl At ct t (HW.out.sl st)).mono ?_; rintro e w1 ⟨rfl, hb⟩; rw [cmpS_fit HFA.out hft]; have HW1 := Aside0.mk (HW.out.step hb); clear hb)
          go_ret2
          exact ⟨by rw [← HU2.out, decide_eq_false HMM.out]; rfl, HW1.out.b⟩
      · have hMM : t ∉ ts := fun hm => by
          obtain ⟨k, hk, rfl⟩ := List.getElem_of_mem hm
          exact (HA.out k hk (by have := HN.out; omega)).irrefl
        have HMM := Aside0.mk hMM
        clear hMM
        go_wp2
        go_ret2
        exact ⟨by rw [← HU2.out, decide_eq_false HMM.out]; rfl, HW.out.b⟩

set_option maxHeartbeats 1000000 in
set_option maxRecDepth 100000 in
/-- (*Set).find. -/
theorem find_calls (W : World) (bs : Nat) (Ao : Option Addr) (co : Nat) (o : Tp) (hs : W.cell? ⟨bs, 1, none⟩ = some (.slice Ao o.length co)) (so : Sl W Ao co o)
    (b : Nat) (A : Option Addr) (c : Nat) (ts : List Tp) (h0 : W.cell? ⟨b, 0, none⟩ = some (.slice A ts.length c)) (hT : Kd.C KT W A ts.length ts) (hn : ts.length ≤ 1000000) (hc : ts.length ≤ c) (hfit : ∀ a ∈ ts, Fit o a) (hup : Up o ts) (At : Option Addr) (ct : Nat) (t : Tp) (st : Sl W At ct t) (hft : Fit o t) :
    Calls Try.prog 55 #[.pointer (some ⟨bs, 0, none⟩), .pointer (some ⟨b, 0, none⟩), .slice At t.length ct] W fun e w' =>
      e = .returned (.tuple #[.int .i64 (idx o ts t), .bool (decide (t ∈ ts))]) ∧ Below W.heap.size W w' := by
  have hlt := World.block_lt_of_cell? W _ hs
  have hlt0 := World.block_lt_of_cell? W _ h0
  have HS := Aside0.mk hs
  have HT := Aside0.mk hT
  have HF := Aside0.mk hfit
  have HU := Aside0.mk hup
  have SI := Since.alloc (Since.refl W) (.cells #[.pointer (some ⟨bs, 0, none⟩)] 24)
  have h0' := pw_cell_below SI.b h0
  have hs' := pw_cell_below SI.b hs
  clear hs hT hfit hup
  go_enter Try.func55, Try.ntmps55
  go_wp2_with (go_at_call 81; refine (bsf_calls _ W.heap.size bs Ao co o ((World.cell?_alloc_at _ _ _ _ rfl).trans rfl) hs' (SI.sl so) A c ts (Kd.C_below HT.out SI.b) hn hc HF.out HU.out At ct t (SI.sl st) hft).mono ?_; rintro e w' ⟨rfl, hb⟩)
  go_ret2
  exact ⟨rfl, (SI.step hb).b⟩

end Go.Proofs.Ytcmllllbmgcnlaa.Tup

namespace Go.Proofs.Ytcmllllbmgcnlaa.Tup
open Go.RowKit Go.Proofs.Ytcmllllbmgcnlaa.F Go.Proofs.YtcmllllbmgcnlaaW.PrintWords Go.Proofs.YtcmllllbmgcnlaaW.PrintLast Go.Proofs.YtcmllllbmgcnlaaW.PrintMore
set_option linter.unusedVariables false
set_option linter.unusedSimpArgs false

/-- A set: its order, its tree. -/
structure SetAt (ok : Nat → Prop) (W : World) (bs : Nat) (A : Option Addr) (c : Nat) (o : Tp) (rt : Nat) (T : BT) : Prop where
  hp : W.heap[bs]? = some (.cells #[.bool true, .slice A o.length c, .pointer (some ⟨rt, 0, none⟩), .int .i64 (T.io.length : Int)] 65 (0, 0))
  so : o.length ≤ c
  F : Kd.F (Kd.int .i64) W ok A o.length o
  nd : NodeF ok W rt T
  wf : T.Ok
  rto : Rt o
  fit : ∀ a ∈ T.io, Fit o a
  up : Up o T.io
  le : T.io.length ≤ 1024
  nok : ¬ ok bs
theorem SetAt.step {ok : Nat → Prop} {W W1 : World} {bs : Nat} {A : Option Addr} {c : Nat} {o : Tp} {rt : Nat} {T : BT} (h : SetAt ok W bs A c o rt T) (hm : ∀ k, ok k → k < W.heap.size → W1.heap[k]? = W.heap[k]?) (hb : W1.heap[bs]? = W.heap[bs]?) : SetAt ok W1 bs A c o rt T :=
  ⟨hb.trans h.hp, h.so, Kd.F_step h.F hm, h.nd.step hm, h.wf, h.rto, h.fit, h.up, h.le, h.nok⟩
theorem SetAt.lt {ok : Nat → Prop} {W : World} {bs : Nat} {A : Option Addr} {c : Nat} {o : Tp} {rt : Nat} {T : BT} (h : SetAt ok W bs A c o rt T) : bs < W.heap.size := (Array.getElem?_eq_some_iff.1 h.hp).1
theorem SetAt.since {ok : Nat → Prop} {W W1 : World} {bs : Nat} {A : Option Addr} {c : Nat} {o : Tp} {rt : Nat} {T : BT} (h : SetAt ok W bs A c o rt T) (hs : Since W W1) : SetAt ok W1 bs A c o rt T :=
  h.step (fun k _ hk => hs.b.block k hk) (hs.b.block _ h.lt)
theorem SetAt.sl {ok : Nat → Prop} {W : World} {bs : Nat} {A : Option Addr} {c : Nat} {o : Tp} {rt : Nat} {T : BT} (h : SetAt ok W bs A c o rt T) : Sl W A c o := ⟨Kd.F_now h.F, h.so⟩
theorem SetAt.c0 {ok : Nat → Prop} {W : World} {bs : Nat} {A : Option Addr} {c : Nat} {o : Tp} {rt : Nat} {T : BT} (h : SetAt ok W bs A c o rt T) : W.cell? ⟨bs, 0, none⟩ = some (.bool true) := (cell_of_heap h.hp 0).trans rfl
theorem SetAt.c1 {ok : Nat → Prop} {W : World} {bs : Nat} {A : Option Addr} {c : Nat} {o : Tp} {rt : Nat} {T : BT} (h : SetAt ok W bs A c o rt T) : W.cell? ⟨bs, 1, none⟩ = some (.slice A o.length c) := (cell_of_heap h.hp 1).trans rfl
theorem SetAt.c2 {ok : Nat → Prop} {W : World} {bs : Nat} {A : Option Addr} {c : Nat} {o : Tp} {rt : Nat} {T : BT} (h : SetAt ok W bs A c o rt T) : W.cell? ⟨bs, 2, none⟩ = some (.pointer (some ⟨rt, 0, none⟩)) := (cell_of_heap h.hp 2).trans rfl
theorem SetAt.c3 {ok : Nat → Prop} {W : World} {bs : Nat} {A : Option Addr} {c : Nat} {o : Tp} {rt : Nat} {T : BT} (h : SetAt ok W bs A c o rt T) : W.cell? ⟨bs, 3, none⟩ = some (.int .i64 (T.io.length : Int)) := (cell_of_heap h.hp 3).trans rfl

set_option maxHeartbeats 1000000 in
set_option maxRecDepth 100000 in
theorem ok_calls (W : World) (bs : Nat) (h : W.cell? ⟨bs, 0, none⟩ = some (.bool true)) :
    Calls Try.prog 48 #[.pointer (some ⟨bs, 0, none⟩)] W fun e w' => e = .returned (.bool true) ∧ W = w' := by
  go_enter Try.func48, Try.ntmps48
  go_wp2
  go_ret
  exact ⟨rfl, rfl⟩

theorem lenB (a b : Nat) : ((a : Int) == (b : Int)) = decide (a = b) := by
  by_cases h : a = b
  · simp [h]
  · simp [h]; omega

set_option maxHeartbeats 1000000 in
set_option maxRecDepth 100000 in
theorem fits_calls (W : World) (bs : Nat) (Ao : Option Addr) (co : Nat) (o : Tp) (h : W.cell? ⟨bs, 0, none⟩ = some (.bool true)) (h1 : W.cell? ⟨bs, 1, none⟩ = some (.slice Ao o.length co)) (At : Option Addr) (ct : Nat) (t : Tp) :
    Calls Try.prog 49 #[.pointer (some ⟨bs, 0, none⟩), .slice At t.length ct] W fun e w' => e = .returned (.bool (decide (t.length = o.length))) ∧ W = w' := by
  go_enter Try.func49, Try.ntmps49
  go_wp2_with (go_at_call 48; refine (ok_calls _ bs h).mono ?_; rintro e w' ⟨rfl, rfl⟩)
  go_ret
  refine ⟨?_, rfl⟩
  by_cases hl : t.length = o.length
  · simp [hl]
  · simp [hl]; omega

set_option maxHeartbeats 1000000 in
set_option maxRecDepth 100000 in
theorem len_calls {ok : Nat → Prop} (W : World) (bs : Nat) {A : Option Addr} {c : Nat} {o : Tp} {rt : Nat} {T : BT} (h : SetAt ok W bs A c o rt T) :
    Calls Try.prog 19 #[.pointer (some ⟨bs, 0, none⟩)] W fun e w' => e = .returned (.int .i64 (T.io.length : Int)) ∧ W = w' := by
  have h0 := h.c0
  have h3 := h.c3
  clear h
  go_enter Try.func19, Try.ntmps19
  go_wp2_with (go_at_call 48; refine (ok_calls _ bs h0).mono ?_; rintro e w' ⟨rfl, rfl⟩)
  go_ret
  exact ⟨rfl, rfl⟩

theorem io_ts {ts : List Tp} {kids : List BT} (h : (BT.mk ts kids).Ok) : kids.map BT.io = [] ∨ (kids.map BT.io).length = ts.length + 1 := by
  rcases ((BT.ok_mk ts kids).1 h).1 with h | h
  · left; simp [h]
  · right; simp [h]
theorem Up.kid {o : Tp} {ts : List Tp} {kids : List BT} (hok : (BT.mk ts kids).Ok) (hu : Up o (BT.mk ts kids).io) (i : Nat) (hi : i < kids.length) : Up o (kids[i]).io ∧ ∀ a ∈ (kids[i]).io, a ∈ (BT.mk ts kids).io := by
  rw [BT.io_mk] at hu ⊢
  rcases ((BT.ok_mk ts kids).1 hok).1 with h | h
  · simp [h] at hi
  · have e := weave_at (kids.map BT.io) ts i (by simp [h]) (by omega)
    have eg : (kids.map BT.io)[i]?.getD [] = (kids[i]).io := by simp [hi]
    rw [eg] at e
    rw [e] at hu ⊢
    unfold Up at hu ⊢
    rw [List.pairwise_append, List.pairwise_append] at hu
    exact ⟨hu.2.1.1, fun a ha => by simp [ha]⟩
/-- A tuple that is none of the node's own lies in the child where it belongs, or nowhere. -/
theorem mem_kid {o t : Tp} {ts : List Tp} {kids : List BT} (hok : (BT.mk ts kids).Ok) (hu : Up o (BT.mk ts kids).io) (hf : ∀ a ∈ (BT.mk ts kids).io, Fit o a) (ht : Fit o t) (hn : t ∉ ts) (hk : kids ≠ []) :
    ∃ h : idx o ts t < kids.length, (t ∈ (BT.mk ts kids).io ↔ t ∈ (kids[idx o ts t]).io) := by
  have hl : kids.length = ts.length + 1 := by
    rcases ((BT.ok_mk ts kids).1 hok).1 with h | h
    · exact absurd h hk
    · exact h
  have hi := idx_le o ts t
  refine ⟨by omega, ?_⟩
  rw [BT.io_mk] at hu hf ⊢
  obtain ⟨hA, hB⟩ := around (by simp [hl]) hu hf ht hn
  rw [weave_at (kids.map BT.io) ts (idx o ts t) (by simp [hl]) hi]
  have eg : (kids.map BT.io)[idx o ts t]?.getD [] = (kids[idx o ts t]'(by omega)).io := by
    rw [List.getElem?_map, List.getElem?_eq_getElem (by omega)]; rfl
  rw [eg, List.mem_append, List.mem_append]
  constructor
  · rintro (h | h | h)
    · exact absurd (hA t h) Lt.irrefl
    · exact h
    · exact absurd (hB t h) Lt.irrefl
  · intro h; exact .inr (.inl h)

set_option maxHeartbeats 2000000 in
set_option maxRecDepth 100000 in
/-- (*Set).Has. -/
theorem has_calls {ok : Nat → Prop} (W : World) (bs : Nat) {A : Option Addr} {c : Nat} {o : Tp} {rt : Nat} {T : BT} (h : SetAt ok W bs A c o rt T) (At : Option Addr) (ct : Nat) (t : Tp) (st : Sl W At ct t) :
    Calls Try.prog 23 #[.pointer (some ⟨bs, 0, none⟩), .slice At t.length ct] W fun e w' => e = .returned (.bool (decide (t ∈ T.io))) ∧ Below W.heap.size W w' := by
  have h0 := h.c0
  have h1 := h.c1
  have h2 := h.c2
  by_cases hl : t.length = o.length
  · have hft : Fit o t := ⟨hl, h.rto⟩
    have so := h.sl
    have hnd := h.nd
    have hwf := h.wf
    have hfit := h.fit
    have hup := h.up
    have hle := h.le
    have hD := decide_eq_true hl
    have HN := Aside0.mk hnd
    have HW := Aside0.mk hwf
    have HFI := Aside0.mk hfit
    have HU := Aside0.mk hup
    have HL := Aside0.mk hle
    have H1 := Aside0.mk h1
    clear hl h hnd hwf hfit hup hle
    go_enter Try.func23, Try.ntmps23
    go_wp2_with (go_at_call 49; refine (fits_calls _ bs A c o h0 h1 At ct t).mono ?_; rw [hD]; rintro e w' ⟨rfl, rfl⟩)
    clear h1 h2 hD
    go_loopg [5] (SizeOf.sizeOf T) (fun gk v5 w' => ∃ (b : Nat) (T' : BT), v5 = .pointer (some ⟨b, 0, none⟩) ∧ Aside0 (SizeOf.sizeOf T' ≤ gk) ∧ Aside0 (NodeF ok w' b T') ∧ Aside0 T'.Ok ∧ Aside0 (∀ a ∈ T'.io, Fit o a) ∧ Aside0 (Up o T'.io) ∧ Aside0 (T'.io.length ≤ 1024) ∧ Aside0 (t ∈ T.io ↔ t ∈ T'.io) ∧ Aside0 (Since W w'))
    case atStart => exact ⟨rt, T, rfl, ⟨Nat.le_refl _⟩, HN, HW, HFI, HU, HL, ⟨Iff.rfl⟩, ⟨Since.refl W⟩⟩
    case round =>
      obtain ⟨b, T', rfl, HK, HN', HW', HF', HU', HL', HI', HS⟩ := hrel
      clear HN HW HFI HU HL
      have hnd := HN'.out
      cases hnd with
      | mk b A0 c0' A1 c1' ts kids ps hok hc0 hc1 hle0 hle1 hlp hT hNd hk =>
        have hus := Up.ts (io_ts HW'.out) (by rw [← BT.io_mk]; exact HU'.out)
        have htl : ts.length ≤ 1000000 := by
          have := weave_len (kids.map BT.io) ts (io_ts HW'.out)
          rw [← BT.io_mk] at this
          have := HL'.out
          omega
        have htf : ∀ a ∈ ts, Fit o a := fun a ha => HF'.out a (by rw [BT.io_mk]; exact weave_mem_ts _ _ (io_ts HW'.out) a ha)
        have hcs : wr.cell? ⟨bs, 1, none⟩ = some (.slice A o.length c) := pw_cell_below HS.out.b H1.out
        have HT := Aside0.mk hT
        have HND := Aside0.mk hNd
        have HKI := Aside0.mk hk
        have HLP := Aside0.mk hlp
        have HC0 := Aside0.mk hc0
        have HC1 := Aside0.mk hc1
        have HUS := Aside0.mk hus
        have HTF := Aside0.mk htf
        clear hT hNd hk hlp hus htf hc1
        by_cases hin : t ∈ ts
        · have hin2 := decide_eq_true hin
          have HIN := Aside0.mk hin
          clear hin
          go_wp2_with (go_at_call 55; refine (find_calls _ bs A c o hcs (HS.out.sl so) b A0 c0' ts hc0 (Kd.F_now HT.out) htl hle0 HTF.out HUS.out At ct t (HS.out.sl st) hft).mono ?_; rw [hin2]; rintro e w1 ⟨rfl, hb⟩; have HS1 := Aside0.mk (HS.out.step hb); clear hb)
          go_ret
          refine ⟨?_, HS1.out.b⟩
          rw [decide_eq_true (HI'.out.2 (by rw [BT.io_mk]; exact weave_mem_ts _ _ (io_ts HW'.out) t HIN.out))]; rfl
        · have hin2 := decide_eq_false hin
          have HIN := Aside0.mk hin
          clear hin
          by_cases hkid : kids = []
          · have hp0 : ps.length = 0 := by rw [HLP.out, hkid]; rfl
            have HP0 := Aside0.mk hp0
            have hcc : ∀ w1, Below wr.heap.size wr w1 → w1.cell? ⟨b, 1, none⟩ = some (.slice A1 0 c1') := fun w1 hb => by have := pw_cell_below hb HC1.out; rwa [HP0.out] at this
            have HCC := Aside0.mk hcc
            have HKD := Aside0.mk hkid
            clear hp0 hcc hkid
            go_wp2_with (go_at_call 55; refine (find_calls _ bs A c o hcs (HS.out.sl so) b A0 c0' ts hc0 (Kd.F_now HT.out) htl hle0 HTF.out HUS.out At ct t (HS.out.sl st) hft).mono ?_; rw [hin2]; rintro e w1 ⟨rfl, hb⟩; have HS1 := Aside0.mk (HS.out.step hb); have hc1n := HCC.out _ hb; clear hb)
            go_ret
            refine ⟨?_, HS1.out.b⟩
            have hno : t ∉ T.io := by
              intro hm
              have := HI'.out.1 hm
              rw [BT.io_mk, HKD.out] at this
              exact HIN.out (by simpa [weave] using this)
            rw [decide_eq_false hno]; rfl
          · obtain ⟨hik, hiff⟩ := mem_kid HW'.out HU'.out HF'.out hft HIN.out hkid
            have hne : ¬ ps.length = 0 := by rw [HLP.out]; intro e; exact hkid (List.length_eq_zero_iff.1 e)
            have hne2 : ((ps.length : Int) == 0) = false := beq_eq_false_iff_ne.2 (by omega)
            have hneN : (ps.length == 0) = false := beq_eq_false_iff_ne.2 hne
            obtain ⟨i, hi⟩ : ∃ i, i = idx o ts t := ⟨_, rfl⟩
            have hip : i < ps.length := by rw [HLP.out, hi]; exact hik
            obtain ⟨ad, e1, hcel⟩ := nod_at (Kd.F_now HND.out) i hip
            subst e1
            have HCE := Aside0.mk hcel
            have HII := Aside0.mk hi
            have HIFF := Aside0.mk hiff
            have HIK := Aside0.mk hik
            have hiI : (i : Int) < (ps.length : Int) := by omega
            clear hne hcel hi hiff hkid
            go_wp2_with (go_at_call 55; refine (find_calls _ bs A c o hcs (HS.out.sl so) b A0 c0' ts hc0 (Kd.F_now HT.out) htl hle0 HTF.out HUS.out At ct t (HS.out.sl st) hft).mono ?_; rw [hin2, ← HII.out]; rintro e w1 ⟨rfl, hb⟩; have HS1 := Aside0.mk (HS.out.step hb); have hc1n := pw_cell_below hb HC1.out; have hc2n := pw_cell_below hb HCE.out; have HB := Aside0.mk hb; clear hb)
            obtain ⟨k2, hk2⟩ : ∃ k2, k2 = gk - 1 := ⟨_, rfl⟩
            have hsz : SizeOf.sizeOf (kids[i]'(by rw [HII.out]; exact HIK.out)) < SizeOf.sizeOf (BT.mk ts kids) := by
              have := List.sizeOf_lt_of_mem (List.getElem_mem (l := kids) (n := i) (by rw [HII.out]; exact HIK.out))
              simp only [BT.mk.sizeOf_spec]; omega
            go_roundg k2
            case measure => have := HK.out; omega
            case rel =>
              have hik2 : i < kids.length := by rw [HII.out]; exact HIK.out
              have hu2 := Up.kid HW'.out HU'.out i hik2
              refine ⟨ps[i], kids[i], rfl, ⟨by have := HK.out; omega⟩, ⟨(HKI.out i hik2 hip).under HB.out⟩, ⟨((BT.ok_mk ts kids).1 HW'.out).2 _ (List.getElem_mem _)⟩, ⟨fun a ha => HF'.out a (hu2.2 a ha)⟩, ⟨hu2.1⟩, ⟨?_⟩, ⟨HI'.out.trans ?_⟩, HS1⟩
              · have h1 := HL'.out
                have h2 : (kids[i]).io.length ≤ (BT.mk ts kids).io.length := by
                  rw [BT.io_mk, weave_at (kids.map BT.io) ts i (by have := io_ts HW'.out; rcases this with h | h; · simp at h; simp [h] at hik2
                                                                   · exact h) (by rw [HII.out]; exact idx_le _ _ _)]
                  have eg : (kids.map BT.io)[i]?.getD [] = (kids[i]).io := by simp [hik2]
                  rw [eg]; simp; omega
                omega
              · have := HIFF.out
                simp only [← HII.out] at this
                exact this
  · have hnot : t ∉ T.io := fun hm => hl (h.fit t hm).1
    have HNO := Aside0.mk hnot
    have hD := decide_eq_false hl
    clear h hl hnot
    go_enter Try.func23, Try.ntmps23
    go_wp2_with (go_at_call 49; refine (fits_calls _ bs A c o h0 h1 At ct t).mono ?_; rw [hD]; rintro e w' ⟨rfl, rfl⟩)
    go_ret
    exact ⟨by rw [decide_eq_false HNO.out]; rfl, Below.refl _ _⟩

end Go.Proofs.Ytcmllllbmgcnlaa.Tup

namespace Go.Proofs.Ytcmllllbmgcnlaa.Tup
open Go.RowKit Go.Lib Go.Proofs.Ytcmllllbmgcnlaa.F Go.Proofs.YtcmllllbmgcnlaaW.PrintWords Go.Proofs.YtcmllllbmgcnlaaW.PrintLast Go.Proofs.YtcmllllbmgcnlaaW.PrintMore
set_option linter.unusedVariables false
set_option linter.unusedSimpArgs false

/-- Two rows, element by element. -/
inductive Els {α β : Type} (R : α → β → Prop) : List α → List β → Prop
  | nil : Els R [] []
  | cons {x : α} {u : β} {xs : List α} {us : List β} : R x u → Els R xs us → Els R (x :: xs) (u :: us)
namespace Els
variable {α β : Type} {R R' : α → β → Prop} {xs ys : List α} {us vs : List β}
theorem len (h : Els R xs us) : us.length = xs.length := by
  induction h with
  | nil => rfl
  | cons _ _ ih => simp [ih]
theorem get (h : Els R xs us) (i : Nat) (hi : i < xs.length) (hu : i < us.length) : R xs[i] us[i] := by
  induction h generalizing i with
  | nil => simp at hi
  | cons h0 _ ih =>
    cases i with
    | zero => exact h0
    | succ i => exact ih i (by simpa using hi) (by simpa using hu)
theorem of (hl : us.length = xs.length) (h : ∀ (i : Nat) (hi : i < xs.length) (hu : i < us.length), R xs[i] us[i]) : Els R xs us := by
  induction xs generalizing us with
  | nil => cases us with
    | nil => exact .nil
    | cons => simp at hl
  | cons x xs ih => cases us with
    | nil => simp at hl
    | cons u us => exact .cons (h 0 (by simp) (by simp)) (ih (by simpa using hl) fun i hi hu => h (i + 1) (by simpa using hi) (by simpa using hu))
theorem append (h : Els R xs us) (k : Els R ys vs) : Els R (xs ++ ys) (us ++ vs) := by
  induction h with
  | nil => exact k
  | cons h0 _ ih => exact .cons h0 ih
theorem take (h : Els R xs us) (n : Nat) : Els R (xs.take n) (us.take n) := by
  induction h generalizing n with
  | nil => simpa using Els.nil
  | cons h0 _ ih => cases n with
    | zero => simpa using Els.nil
    | succ n => simpa using Els.cons h0 (ih n)
theorem drop (h : Els R xs us) (n : Nat) : Els R (xs.drop n) (us.drop n) := by
  induction h generalizing n with
  | nil => simpa using Els.nil
  | cons h0 h1 ih => cases n with
    | zero => simpa using Els.cons h0 h1
    | succ n => simpa using ih n
theorem ins (h : Els R xs us) (i : Nat) {x : α} {u : β} (hx : R x u) : Els R (insL xs i x) (insL us i u) := (h.take i).append (.cons hx (h.drop i))
theorem imp (h : Els R xs us) (hi : ∀ x u, R x u → R' x u) : Els R' xs us := by
  induction h with
  | nil => exact .nil
  | cons h0 _ ih => exact .cons (hi _ _ h0) ih
theorem set (h : Els R xs us) (i : Nat) {x : α} {u : β} (hx : R x u) : Els R (xs.set i x) (us.set i u) := by
  induction h generalizing i with
  | nil => simpa using Els.nil
  | cons h0 h1 ih => cases i with
    | zero => exact .cons hx h1
    | succ i => exact .cons h0 (ih i)
end Els

/-- An element in its cell; what it leads to lies in ok. -/
def El {α : Type} (d : Kd α) (W : World) (ok : Nat → Prop) (x : α) (u : Value) : Prop := Kd.FK d W ok x [u]
theorem El.step {α : Type} {d : Kd α} {W W1 : World} {ok : Nat → Prop} {x : α} {u : Value} (h : El d W ok x u) (hm : ∀ k, ok k → k < W.heap.size → W1.heap[k]? = W.heap[k]?) : El d W1 ok x u := Foot.step h hm
theorem El.mono {α : Type} {d : Kd α} {W : World} {ok ok' : Nat → Prop} {x : α} {u : Value} (h : El d W ok x u) (hm : ∀ k, ok k → ok' k) : El d W ok' x u := Foot.mono h hm
theorem El.one {α : Type} {d : Kd α} {W : World} {ok : Nat → Prop} {x : α} {u : Value} (h : El d W ok x u) : u.oneCell' = true := d.K_one (Kd.FK_now h) u (by simp)
theorem els_one {α : Type} {d : Kd α} {W : World} {ok : Nat → Prop} {xs : List α} {us : List Value} (h : Els (El d W ok) xs us) : ∀ u ∈ us, u.oneCell' = true := fun u hu => by
  obtain ⟨i, hi, rfl⟩ := List.getElem_of_mem hu
  exact (h.get i (by rw [← h.len]; exact hi) hi).one
theorem els_step {α : Type} {d : Kd α} {W W1 : World} {ok : Nat → Prop} {xs : List α} {us : List Value} (h : Els (El d W ok) xs us) (hm : ∀ k, ok k → k < W.heap.size → W1.heap[k]? = W.heap[k]?) : Els (El d W1 ok) xs us := h.imp fun _ _ h => h.step hm
theorem els_mono {α : Type} {d : Kd α} {W : World} {ok ok' : Nat → Prop} {xs : List α} {us : List Value} (h : Els (El d W ok) xs us) (hm : ∀ k, ok k → ok' k) : Els (El d W ok') xs us := h.imp fun _ _ h => h.mono hm

/-- The raw values of a row that is read. -/
theorem rows_out {α : Type} {d : Kd α} {W : World} {ok : Nat → Prop} {A : Option Addr} {n : Nat} {xs : List α} (hd : d.sz = 1) (h : Kd.F d W ok A n xs) :
    ∃ us : List Value, Els (El d W ok) xs us ∧ us.length = n ∧ (A = none → n = 0) ∧ (∀ ad, A = some ad → ∀ j u, us[j]? = some u → W.cell? (ad.add j) = some u) := by
  have hl : xs.length = n := Kd.F_len h
  cases hA : A with
  | none =>
    have h0 : n = 0 := by
      rcases Nat.eq_zero_or_pos n with h0 | h0
      · exact h0
      · obtain ⟨ad, e, _⟩ := (Kd.F_now h).2.2 h0
        rw [hA] at e; cases e
    have : xs = [] := List.length_eq_zero_iff.1 (by omega)
    subst this
    exact ⟨[], .nil, by simpa using h0.symm, fun _ => h0, fun ad e => by cases e⟩
  | some ad =>
    have key : ∀ i (hi : i < xs.length), ∃ u, El d W ok xs[i] u ∧ W.cell? (ad.add i) = some u := fun i hi => by
      obtain ⟨ad', c, e, hcl, hK, hcc, _⟩ := Kd.F_get h xs[i] (i : Int) (by omega) (by omega)
      rw [hA] at e
      injection e with e
      subst e
      simp only [Int.toNat_natCast] at hK hcc
      rw [hd] at hcl hcc
      obtain ⟨u, rfl⟩ : ∃ u, c = [u] := by
        match c, hcl with
        | [u], _ => exact ⟨u, rfl⟩
      refine ⟨u, ?_, by simpa using hcc 0 u rfl⟩
      have eg : xs.getD i xs[i] = xs[i] := by simp [hi]
      rw [eg] at hK
      exact hK
    obtain ⟨us, hus⟩ : ∃ us : List Value, us = (List.range xs.length).map fun i => (W.cell? (ad.add i)).getD undef := ⟨_, rfl⟩
    have hul : us.length = xs.length := by simp [hus]
    have hget : ∀ i (hi : i < us.length), W.cell? (ad.add i) = some us[i] := fun i hi => by
      obtain ⟨u, _, hc⟩ := key i (by omega)
      simp [hus, hc]
    refine ⟨us, Els.of hul (fun i hi hu => ?_), by omega, (fun e => by cases e), fun ad' e j u hj => ?_⟩
    · obtain ⟨u, hE, hc⟩ := key i hi
      have := hget i hu
      rw [hc] at this
      injection this with this
      rw [← this]; exact hE
    · injection e with e
      subst e
      obtain ⟨hjl, hjp⟩ := List.getElem?_eq_some_iff.1 hj
      rw [hget j hjl, hjp]

/-- A row of the call's own of raw values is a row of the elements. -/
theorem rows_in {α : Type} {d : Kd α} {W : World} {ok : Nat → Prop} {base e : Nat} {v : Value} {n : Nat} {xs : List α} {us : List Value} (hd : d.sz = 1) (ho : W.ownsRow base e 1 v n us) (h : Els (El d W ok) xs us) (hn : n = xs.length) :
    ∃ A c, v = .slice A xs.length c ∧ xs.length ≤ c ∧ Kd.F d W (fun k => ok k ∨ some k = v.ownBlock) A xs.length xs := by
  subst hn
  rcases ho.2 with ⟨rfl, h0⟩ | ⟨g, cap, cur, rfl, hbg, hg, hle, hmax, hsz, htk⟩
  · have : xs = [] := List.length_eq_zero_iff.1 h0
    subst this
    exact ⟨none, 0, rfl, Nat.le_refl _, Kd.F_nil d W _⟩
  · refine ⟨some ⟨g, 0, none⟩, cap, rfl, hle, fun W' hW => ⟨rfl, by unfold maxLen at hmax; omega, fun _ => ⟨_, rfl, fun j p hj => ?_⟩⟩⟩
    obtain ⟨hjl, hjp⟩ := List.getElem?_eq_some_iff.1 hj
    have hju : j < us.length := by rw [h.len]; exact hjl
    have hE := h.get j hjl hju
    rw [hjp] at hE
    have hgl := (Array.getElem?_eq_some_iff.1 hg).1
    have hg' : W'.heap[g]? = some (.cells cur e (0, 0)) := (hW g (.inr rfl) hgl).trans hg
    refine ⟨[us[j]], hd.symm, hE W' (fun k hk hlt => hW k (.inl hk) hlt), fun t u ht => ?_⟩
    have ht0 : t = 0 := by
      match t, ht with
      | 0, _ => rfl
    subst ht0
    have hu : us[j] = u := by simpa using ht
    rw [hd, Addr.add_lit, cell_of_heap hg']
    have h1 : (cur.toList.take (xs.length * 1))[j]? = some us[j] := by rw [htk]; exact List.getElem?_eq_getElem hju
    rw [List.getElem?_take] at h1
    split at h1
    · rw [← hu]; simpa using h1
    · cases h1

/-- A tuple in its cell. -/
theorem el_tup {W : World} {ok : Nat → Prop} {t : Tp} {u : Value} (h : El KT W ok t u) : ∃ A c, u = .slice A t.length c ∧ t.length ≤ c ∧ Kd.F (Kd.int .i64) W ok A t.length t := by
  obtain ⟨A, c, e, hl, hC⟩ := Kd.FK_now h
  injection e with e _
  subst e
  refine ⟨A, c, rfl, hl, fun W' hW => ?_⟩
  obtain ⟨A', c', e, hl', hC'⟩ := h W' hW
  injection e with e _
  injection e with e1 e2 e3
  subst e1
  exact hC'
theorem tup_el {W : World} {ok : Nat → Prop} {t : Tp} {A : Option Addr} {c : Nat} (hl : t.length ≤ c) (h : Kd.F (Kd.int .i64) W ok A t.length t) : El KT W ok t (.slice A t.length c) := fun W' hW => ⟨A, c, rfl, hl, h W' hW⟩
theorem nod_el {W : World} {ok : Nat → Prop} (b : Nat) : El KN W ok b (.pointer (some ⟨b, 0, none⟩)) := fun W' hW => rfl
theorem el_nod {W : World} {ok : Nat → Prop} {b : Nat} {u : Value} (h : El KN W ok b u) : u = .pointer (some ⟨b, 0, none⟩) := by
  have := Kd.FK_now h
  have e : [u] = [Value.pointer (some ⟨b, 0, none⟩)] := this
  injection e

/-- What lies in ok, or is new. -/
def Plus (ok : Nat → Prop) (n : Nat) : Nat → Prop := fun k => ok k ∨ n ≤ k
theorem own_ge {W : World} {base e s : Nat} {v : Value} {n : Nat} {xs : List Value} (h : W.ownsRow base e s v n xs) : ∀ k, some k = v.ownBlock → base ≤ k := by
  rcases h.2 with ⟨rfl, _⟩ | ⟨g, cap, cur, rfl, hb, _⟩
  · intro k hk; simp [Value.ownBlock] at hk
  · intro k hk
    have : k = g := by simpa [Value.ownBlock] using hk
    omega
theorem own_lt {W : World} {base e s : Nat} {v : Value} {n : Nat} {xs : List Value} (h : W.ownsRow base e s v n xs) : ∀ k, some k = v.ownBlock → k < W.heap.size := by
  rcases h.2 with ⟨rfl, _⟩ | ⟨g, cap, cur, rfl, hb, hg, _⟩
  · intro k hk; simp [Value.ownBlock] at hk
  · intro k hk
    have : k = g := by simpa [Value.ownBlock] using hk
    subst this
    exact (Array.getElem?_eq_some_iff.1 hg).1

/-- A clone of a row of tuples (T), of nodes (N), of whole numbers (I). -/
theorem cloneT_calls (W : World) (ok : Nat → Prop) (A : Option Addr) (c : Nat) (ts : List Tp) (h : Kd.F KT W ok A ts.length ts) (hn : ts.length ≤ 1000000) :
    Calls Try.prog 79 #[.slice A ts.length c] W fun e w' => ∃ v us, e = .returned v ∧ Els (El KT W ok) ts us ∧ w'.ownsRow W.heap.size 22 1 v ts.length us ∧ Below W.heap.size W w' := by
  obtain ⟨us, hE, hl, hA, hc⟩ := rows_out rfl h
  refine (clT_calls W A ts.length c us hl hA hc (els_one hE) (by omega) (by unfold maxLen; omega)).mono ?_
  rintro e w' ⟨v, rfl, ho, hb⟩
  exact ⟨v, us, rfl, hE, ho, hb⟩
theorem cloneN_calls (W : World) (ok : Nat → Prop) (A : Option Addr) (c : Nat) (ps : List Nat) (h : Kd.F KN W ok A ps.length ps) (hn : ps.length ≤ 1000000) :
    Calls Try.prog 77 #[.slice A ps.length c] W fun e w' => ∃ v us, e = .returned v ∧ Els (El KN W ok) ps us ∧ w'.ownsRow W.heap.size 63 1 v ps.length us ∧ Below W.heap.size W w' := by
  obtain ⟨us, hE, hl, hA, hc⟩ := rows_out rfl h
  refine (clN_calls W A ps.length c us hl hA hc (els_one hE) (by omega) (by unfold maxLen; omega)).mono ?_
  rintro e w' ⟨v, rfl, ho, hb⟩
  exact ⟨v, us, rfl, hE, ho, hb⟩
theorem cloneI_calls (W : World) (A : Option Addr) (c : Nat) (t : Tp) (h : Sl W A c t) (hn : t.length ≤ 1000000) :
    Calls Try.prog 47 #[.slice A t.length c] W fun e w' => ∃ A' c', e = .returned (.slice A' t.length c') ∧ t.length ≤ c' ∧ Kd.F (Kd.int .i64) w' (fun k => W.heap.size ≤ k) A' t.length t ∧ Below W.heap.size W w' := by
  obtain ⟨us, hE, hl, hA, hc⟩ := rows_out rfl (Kd.C_F (Kd.heap_int .i64) h.C)
  refine (clI_calls W A t.length c us hl hA hc (els_one hE) (by omega) (by unfold maxLen; omega)).mono ?_
  rintro e w' ⟨v, rfl, ho, hb⟩
  obtain ⟨A', c', rfl, hle, hF⟩ := rows_in (d := Kd.int .i64) (ok := fun _ => False) rfl ho (hE.imp fun x u hx => fun W' _ => (show (Kd.int .i64).K W x [u] from Kd.FK_now hx)) rfl
  exact ⟨A', c', rfl, hle, Kd.F_mono hF (fun k hk => hk.elim False.elim (own_ge ho k)), hb⟩

end Go.Proofs.Ytcmllllbmgcnlaa.Tup

namespace Go.Proofs.Ytcmllllbmgcnlaa.Tup
open Go.RowKit Go.Lib Go.Proofs.Ytcmllllbmgcnlaa.F Go.Proofs.YtcmllllbmgcnlaaW.PrintWords Go.Proofs.YtcmllllbmgcnlaaW.PrintLast Go.Proofs.YtcmllllbmgcnlaaW.PrintMore
set_option linter.unusedVariables false
set_option linter.unusedSimpArgs false

theorem weave_set (ks : List (List Tp)) (ts : List Tp) (i : Nat) (y : List Tp) (h : ks.length = ts.length + 1) (hi : i ≤ ts.length) : weave (ks.set i y) ts = ahead ks ts i ++ (y ++ behind ks ts i) := by
  rw [weave_at (ks.set i y) ts i (by simpa using h) hi]
  have e1 : ahead (ks.set i y) ts i = ahead ks ts i := by
    rw [ahead_take (ks.set i y), ahead_take ks, List.take_set_of_le (Nat.le_refl i)]
  have e2 : (ks.set i y)[i]?.getD [] = y := by simp [show i < ks.length by omega]
  have e3 : behind (ks.set i y) ts i = behind ks ts i := by unfold behind; rw [List.drop_set_of_lt (by omega)]
  rw [e1, e2, e3]
theorem weave_insert (ks : List (List Tp)) (ts : List Tp) (i : Nat) (l r : List Tp) (x : Tp) (h : ks.length = ts.length + 1) (hi : i ≤ ts.length) : weave (insL (ks.set i l) (i + 1) r) (insL ts i x) = ahead ks ts i ++ ((l ++ x :: r) ++ behind ks ts i) := by
  induction i generalizing ks ts with
  | zero => cases ks with
    | nil => simp at h
    | cons k ks =>
      have e := weave_zero r ks ts (by simpa using h)
      cases ts with
      | nil =>
        have : ks = [] := List.length_eq_zero_iff.1 (by simpa using h)
        subst this
        simp [insL, weave, ahead, behind, behind0]
      | cons t ts =>
        simp only [insL, List.set_cons_zero, List.take_succ_cons, List.take_zero, List.drop_succ_cons, List.drop_zero, List.nil_append, List.cons_append, weave, ahead, behind]
        simp only [weave] at e
        rw [e]; simp
  | succ i ih => cases ks with
    | nil => simp at h
    | cons k ks => cases ts with
      | nil => simp at hi
      | cons t ts =>
        have := ih ks ts (by simpa using h) (by simpa using hi)
        simp only [insL, List.set_cons_succ, List.take_succ_cons, List.drop_succ_cons, List.cons_append, weave, ahead] at this ⊢
        rw [this]; simp [behind]
theorem weave_parts (ks : List (List Tp)) (ts : List Tp) (h : Nat) (hl : ks = [] ∨ ks.length = ts.length + 1) (hh : h < ts.length) : weave ks ts = weave (ks.take (h + 1)) (ts.take h) ++ (ts[h]?.getD []) :: weave (ks.drop (h + 1)) (ts.drop (h + 1)) := by
  induction h generalizing ks ts with
  | zero => cases ts with
    | nil => simp at hh
    | cons t ts =>
      rcases hl with rfl | hl
      · simp [weave]
      · cases ks with
        | nil => simp at hl
        | cons k ks => simp [weave]
  | succ h ih => cases ts with
    | nil => simp at hh
    | cons t ts =>
      rcases hl with rfl | hl
      · have := ih [] ts (.inl rfl) (by simpa using hh)
        simp [weave] at this ⊢
        exact this
      · cases ks with
        | nil => simp at hl
        | cons k ks =>
          have := ih ks ts (.inr (by simpa using hl)) (by simpa using hh)
          simp only [List.take_succ_cons, List.drop_succ_cons, weave, List.getElem?_cons_succ]
          rw [this]; simp

/-- A leaf with a tuple more. -/
theorem leaf_io (o t : Tp) (ts : List Tp) : (BT.mk (insL ts (idx o ts t) t) []).Ok ∧ (BT.mk (insL ts (idx o ts t) t) []).io = insO o t (BT.mk ts []).io := by
  refine ⟨(BT.ok_mk _ _).2 ⟨.inl rfl, by simp⟩, ?_⟩
  rw [BT.io_mk, BT.io_mk]
  rfl
/-- The tree behind a tuple more in a child. -/
theorem kid_io {o t : Tp} {ts : List Tp} {kids : List BT} (hok : (BT.mk ts kids).Ok) (hu : Up o (BT.mk ts kids).io) (hf : ∀ a ∈ (BT.mk ts kids).io, Fit o a) (ht : Fit o t) (hn : t ∉ ts) (hi : idx o ts t < kids.length) (K : BT) (hK : K.Ok) (hKi : K.io = insO o t (kids[idx o ts t]).io) :
    (BT.mk ts (kids.set (idx o ts t) K)).Ok ∧ (BT.mk ts (kids.set (idx o ts t) K)).io = insO o t (BT.mk ts kids).io := by
  have hl : kids.length = ts.length + 1 := by
    rcases ((BT.ok_mk ts kids).1 hok).1 with h | h
    · simp [h] at hi
    · exact h
  have hks := ((BT.ok_mk ts kids).1 hok).2
  have hii := idx_le o ts t
  constructor
  · refine (BT.ok_mk _ _).2 ⟨.inr (by simpa using hl), fun k hk => ?_⟩
    rcases List.mem_or_eq_of_mem_set hk with h | h
    · exact hks k h
    · subst h; exact hK
  · rw [BT.io_mk] at hu hf ⊢
    rw [BT.io_mk, List.map_set, weave_set _ ts _ _ (by simpa using hl) hii]
    obtain ⟨hA, hB⟩ := around (by simp [hl]) hu hf ht hn
    rw [weave_at (kids.map BT.io) ts (idx o ts t) (by simp [hl]) hii, insO_append o t _ _ _ hA (fun a ha h => (hB a ha).asymm h), hKi]
    have eg : (kids.map BT.io)[idx o ts t]?.getD [] = (kids[idx o ts t]).io := by
      rw [List.getElem?_map, List.getElem?_eq_getElem hi]; rfl
    rw [eg]
/-- .. if that child is split. -/
theorem kids_io {o t : Tp} {ts : List Tp} {kids : List BT} (hok : (BT.mk ts kids).Ok) (hu : Up o (BT.mk ts kids).io) (hf : ∀ a ∈ (BT.mk ts kids).io, Fit o a) (ht : Fit o t) (hn : t ∉ ts) (hi : idx o ts t < kids.length) (ts' : List Tp) (kids' : List BT) (hK : (BT.mk ts' kids').Ok) (hKi : (BT.mk ts' kids').io = insO o t (kids[idx o ts t]).io) (h : Nat) (hh : h < ts'.length) :
    let L := BT.mk (ts'.take h) (kids'.take (h + 1))
    let R := BT.mk (ts'.drop (h + 1)) (kids'.drop (h + 1))
    let T := BT.mk (insL ts (idx o ts t) (ts'[h]?.getD [])) (insL (kids.set (idx o ts t) L) (idx o ts t + 1) R)
    T.Ok ∧ T.io = insO o t (BT.mk ts kids).io := by
  intro L R T
  have hl : kids.length = ts.length + 1 := by
    rcases ((BT.ok_mk ts kids).1 hok).1 with h | h
    · simp [h] at hi
    · exact h
  have hks := ((BT.ok_mk ts kids).1 hok).2
  have hks' := ((BT.ok_mk ts' kids').1 hK).2
  have hl' := ((BT.ok_mk ts' kids').1 hK).1
  have hii := idx_le o ts t
  have hL : L.Ok := by
    refine (BT.ok_mk _ _).2 ⟨?_, fun k hk => hks' k (List.mem_of_mem_take hk)⟩
    rcases hl' with e | e
    · left; simp [e]
    · right; simp; omega
  have hR : R.Ok := by
    refine (BT.ok_mk _ _).2 ⟨?_, fun k hk => hks' k (List.mem_of_mem_drop hk)⟩
    rcases hl' with e | e
    · left; simp [e]
    · right; simp; omega
  have hLR : L.io ++ (ts'[h]?.getD []) :: R.io = (BT.mk ts' kids').io := by
    rw [BT.io_mk, BT.io_mk, BT.io_mk, weave_parts (kids'.map BT.io) ts' h (by rcases hl' with e | e
                                                                              · left; simp [e]
                                                                              · right; simpa using e) hh, List.map_take, List.map_drop]
  constructor
  · refine (BT.ok_mk _ _).2 ⟨.inr (by simp [insL]; omega), fun k hk => ?_⟩
    simp only [insL, List.mem_append, List.mem_cons] at hk
    have hset : ∀ k, k ∈ kids.set (idx o ts t) L → k.Ok := fun k hk => by
      rcases List.mem_or_eq_of_mem_set hk with h | h
      · exact hks k h
      · subst h; exact hL
    rcases hk with h | h | h
    · exact hset k (List.mem_of_mem_take h)
    · subst h; exact hR
    · exact hset k (List.mem_of_mem_drop h)
  · rw [BT.io_mk] at hu hf ⊢
    have em : (insL (kids.set (idx o ts t) L) (idx o ts t + 1) R).map BT.io = insL ((kids.map BT.io).set (idx o ts t) L.io) (idx o ts t + 1) R.io := by
      simp [insL, List.map_set]
    rw [BT.io_mk, em, weave_insert _ ts _ _ _ _ (by simpa using hl) hii]
    obtain ⟨hA, hB⟩ := around (by simp [hl]) hu hf ht hn
    rw [weave_at (kids.map BT.io) ts (idx o ts t) (by simp [hl]) hii, insO_append o t _ _ _ hA (fun a ha h => (hB a ha).asymm h), hLR, hKi]
    have eg : (kids.map BT.io)[idx o ts t]?.getD [] = (kids[idx o ts t]).io := by
      rw [List.getElem?_map, List.getElem?_eq_getElem hi]; rfl
    rw [eg]
/-- A root that is split. -/
theorem root_io (ts : List Tp) (kids : List BT) (hK : (BT.mk ts kids).Ok) (h : Nat) (hh : h < ts.length) :
    let T := BT.mk [ts[h]?.getD []] [BT.mk (ts.take h) (kids.take (h + 1)), BT.mk (ts.drop (h + 1)) (kids.drop (h + 1))]
    T.Ok ∧ T.io = (BT.mk ts kids).io := by
  intro T
  have hks := ((BT.ok_mk ts kids).1 hK).2
  have hl := ((BT.ok_mk ts kids).1 hK).1
  constructor
  · refine (BT.ok_mk _ _).2 ⟨.inr rfl, fun k hk => ?_⟩
    simp only [List.mem_cons, List.not_mem_nil, or_false] at hk
    rcases hk with rfl | rfl
    · refine (BT.ok_mk _ _).2 ⟨?_, fun k hk => hks k (List.mem_of_mem_take hk)⟩
      rcases hl with e | e
      · left; simp [e]
      · right; simp; omega
    · refine (BT.ok_mk _ _).2 ⟨?_, fun k hk => hks k (List.mem_of_mem_drop hk)⟩
      rcases hl with e | e
      · left; simp [e]
      · right; simp; omega
  · rw [BT.io_mk, BT.io_mk, weave_parts (kids.map BT.io) ts h (by rcases hl with e | e
                                                                  · left; simp [e]
                                                                  · right; simpa using e) hh]
    simp [weave, BT.io_mk]

end Go.Proofs.Ytcmllllbmgcnlaa.Tup
