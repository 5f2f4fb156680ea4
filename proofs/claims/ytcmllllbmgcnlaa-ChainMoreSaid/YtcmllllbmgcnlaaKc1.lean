/- The plain law of the tuple package: what the printed functions come to, in plain lists. The plain law of the tuple package, second part: lists that hold each number once; turned tuples; covers. What the tuple package's functions answer, as contracts: in plain lists, with no rounds. The plain law of the tuple package, third part: covers, columns, and the reference's functions. Matchings: what both searches for one leave, and that it is as great as can be. Plain. What the chain package's small functions answer. chain.next in plain words: what its loops keep. The reference's search for pairs (Least, try) in plain words. (*matcher).try: the walk. The reference's Least: the walk. The reference's Least: the walk. -/
import Derived.Test.YtcmllllbmgcnlaaCAll
import Derived.Test.YtcmllllbmgcnlaaC0
import Derived.Deep.OwnRows
import Derived.Deep.QuietTactic
import Derived.Deep.LoopGhost
namespace Go.Proofs.Ytcmllllbmgcnlaa.ChT
open Go.RowKit Go.Proofs.Ytcmllllbmgcnlaa.C Go.Proofs.YtcmllllbmgcnlaaW.PrintWords Go.Proofs.YtcmllllbmgcnlaaW.PrintLast Go.Proofs.YtcmllllbmgcnlaaW.PrintMore
set_option linter.unusedVariables false
set_option linter.unusedSimpArgs false

/-- An order is right. -/
def Rt (o : List Int) : Prop := o.length ≤ 8 ∧ (∀ c ∈ o, 0 ≤ c ∧ c < (o.length : Int)) ∧ o.Nodup
instance decRt (o : List Int) : Decidable (Rt o) := by unfold Rt; infer_instance

theorem rd_at {xs pre rest : List Int} {c : Int} (h : xs = pre ++ c :: rest) : rd xs (pre.length : Int) = c := by
  subst h; simp [rd]
theorem wrap_nat (n : Nat) (h : n < 9223372036854775807) : wrap64 ((n : Int) + 1) = ((n + 1 : Nat) : Int) := by
  unfold wrap64; omega

set_option maxRecDepth 100000 in
theorem bits_all : ∀ m : Fin 256, ∀ c : Fin 8, (Go.bits .and .i64 (shr .i64 (m.val : Int) (c.val : Int)) 1 = 1 ↔ m.val.testBit c.val = true) ∧ Go.bits .or .i64 (m.val : Int) (shl .i64 1 (c.val : Int)) = ((m.val ||| 2 ^ c.val : Nat) : Int) := by decide +kernel

theorem bit_test (m : Nat) (hm : m < 256) (c : Nat) (hc : c < 8) : (Go.bits .and .i64 (shr .i64 (m : Int) (c : Int)) 1 = 1) ↔ m.testBit c = true :=
  (bits_all ⟨m, hm⟩ ⟨c, hc⟩).1
theorem bit_set (m : Nat) (hm : m < 256) (c : Nat) (hc : c < 8) : Go.bits .or .i64 (m : Int) (shl .i64 1 (c : Int)) = ((m ||| 2 ^ c : Nat) : Int) :=
  (bits_all ⟨m, hm⟩ ⟨c, hc⟩).2

theorem set_lt (m : Nat) (hm : m < 256) (c : Nat) (hc : c < 8) : m ||| 2 ^ c < 256 := by
  have h2 : 2 ^ c < 2 ^ 8 := Nat.pow_lt_pow_right (by decide) hc
  exact Nat.or_lt_two_pow (n := 8) hm h2
theorem test_set (m c j : Nat) : (m ||| 2 ^ c).testBit j = true ↔ (m.testBit j = true ∨ j = c) := by
  rw [Nat.testBit_or, Bool.or_eq_true, Nat.testBit_two_pow, decide_eq_true_iff]
  exact ⟨fun h => h.imp id Eq.symm, fun h => h.imp id Eq.symm⟩

theorem right_loop (o : List Int) (ho : o.length ≤ 8) : ∀ (rest pre : List Int) (m : Nat) (k : Nat), o = pre ++ rest → m < 256 → (∀ j : Nat, j < 8 → (m.testBit j = true ↔ (j : Int) ∈ pre)) → (∀ c ∈ pre, 0 ≤ c ∧ c < (o.length : Int)) → pre.Nodup → rest.length < k →
    tuple_Right.l0 k o (m : Int) o (o.length : Int) (pre.length : Int) = some (decide (Rt o)) := by
  intro rest
  induction rest with
  | nil =>
    intro pre m k e hm hb hr hn hk
    obtain ⟨k, rfl⟩ : ∃ q, k = q + 1 := ⟨k - 1, by omega⟩
    have e' : pre = o := by simpa using e.symm
    subst e'
    have hR : Rt pre := ⟨ho, hr, hn⟩
    simp only [tuple_Right.l0]
    rw [if_neg (by omega), decide_eq_true hR]
  | cons c rest ih =>
    intro pre m k e hm hb hr hn hk
    simp only [List.length_cons] at hk
    obtain ⟨k, rfl⟩ : ∃ q, k = q + 1 := ⟨k - 1, by omega⟩
    have hl : o.length = pre.length + (rest.length + 1) := by rw [e]; simp
    have hat := rd_at e
    have hmem : c ∈ o := by rw [e]; simp
    simp only [tuple_Right.l0]
    rw [if_pos (by omega), if_pos (by omega), if_pos (by omega), hat]
    by_cases h1 : c < 0
    · rw [if_pos h1, decide_eq_false (fun h => by have := h.2.1 c hmem; omega)]
    rw [if_neg h1]
    by_cases h2 : c ≥ (o.length : Int)
    · rw [if_pos h2, decide_eq_false (fun h => by have := h.2.1 c hmem; omega)]
    rw [if_neg h2, if_pos (by omega)]
    obtain ⟨d, rfl⟩ : ∃ d : Nat, c = (d : Int) := ⟨c.toNat, by omega⟩
    have hd : d < 8 := by omega
    by_cases h3 : m.testBit d = true
    · rw [if_pos ((bit_test m hm d hd).2 h3)]
      have hin := (hb d hd).1 h3
      rw [decide_eq_false]
      intro h
      have := h.2.2
      rw [e, List.nodup_append] at this
      exact this.2.2 _ hin _ (by simp) rfl
    · rw [if_neg (fun h => h3 ((bit_test m hm d hd).1 h)), bit_set m hm d hd, wrap_nat _ (by omega)]
      have hnin : (d : Int) ∉ pre := fun h => h3 ((hb d hd).2 h)
      have key := ih (pre ++ [(d : Int)]) (m ||| 2 ^ d) k (by rw [e]; simp) (set_lt m hm d hd) (fun j hj => by
        rw [test_set, hb j hj]; simp [Int.ofNat_inj]) (fun c hc => by
          rcases List.mem_append.1 hc with h | h
          · exact hr c h
          · simp at h; subst h; omega) (by
          rw [List.nodup_append]; refine ⟨hn, by simp, ?_⟩
          intro a ha b hb' hab; simp at hb'; subst hb'; subst hab; exact hnin ha) (by omega)
      simpa using key

theorem right_is (k : Nat) (o : List Int) (hk : o.length < k) : tuple_Right.f k o = some (decide (Rt o)) := by
  unfold tuple_Right.f
  by_cases h : (o.length : Int) > 8
  · rw [if_pos h, decide_eq_false (fun hR => by have := hR.1; omega)]
  · rw [if_neg h]
    have := right_loop o (by omega) o [] 0 k (by simp) (by decide) (fun j _ => by simp) (fun c hc => by simp at hc) (by simp) hk
    simpa using this

theorem rdL_at {xs pre rest : List (List Int)} {c : List Int} (h : xs = pre ++ c :: rest) : rd_L1 xs (pre.length : Int) = c := by
  subst h; simp [rd_L1]
/-- The order of two tuples, columns as they come. -/
def cmpL : List Int → List Int → List Int → Int
  | [], _, _ => 0
  | c :: o, a, b => if rd a c < rd b c then -1 else if rd a c > rd b c then 1 else cmpL o a b
def Fit (o a : List Int) : Prop := a.length = o.length ∧ Rt o
instance decFit (o a : List Int) : Decidable (Fit o a) := by unfold Fit; infer_instance
def cmpS (o a b : List Int) : Int := if Fit o a ∧ Fit o b then cmpL o a b else 0

theorem same_loop (a b : List Int) (hn : a.length ≤ 9223372036854775806) (hl : a.length = b.length) : ∀ (d i k : Nat), a.length - i = d → i ≤ a.length → d < k → (∀ j, j < i → a.getD j 0 = b.getD j 0) →
    vestryref04_Same.l0 k a b (i : Int) = some (decide (a = b)) := by
  intro d
  induction d with
  | zero =>
    intro i k hd hi hk h
    obtain ⟨k, rfl⟩ : ∃ q, k = q + 1 := ⟨k - 1, by omega⟩
    simp only [vestryref04_Same.l0]
    rw [if_neg (by omega), decide_eq_true]
    apply List.ext_getElem hl
    intro j h1 h2
    have := h j (by omega)
    simpa [h1, h2] using this
  | succ d ih =>
    intro i k hd hi hk h
    obtain ⟨k, rfl⟩ : ∃ q, k = q + 1 := ⟨k - 1, by omega⟩
    simp only [vestryref04_Same.l0]
    rw [if_pos (by omega), if_pos (by omega), if_pos (by omega)]
    by_cases e : rd a (i : Int) = rd b (i : Int)
    · rw [if_pos e, wrap_nat _ (by omega)]
      refine ih (i + 1) k (by omega) (by omega) (by omega) (fun j hj => ?_)
      by_cases hji : j = i
      · subst hji; simpa [rd] using e
      · exact h j (by omega)
    · rw [if_neg e, decide_eq_false]
      intro he; subst he; exact e rfl

theorem same_is (k : Nat) (a b : List Int) (hn : a.length ≤ 9223372036854775806) (hk : a.length < k) : vestryref04_Same.f k a b = some (decide (a = b)) := by
  unfold vestryref04_Same.f
  by_cases h : (a.length : Int) = (b.length : Int)
  · rw [if_pos h]
    exact same_loop a b hn (by omega) a.length 0 k (by omega) (by omega) hk (fun j hj => by omega)
  · rw [if_neg h, decide_eq_false]
    intro e; subst e; exact h rfl

/-! what a right order says -/
theorem rd_mem {o : List Int} (h : Rt o) (i : Nat) (hi : i < o.length) : 0 ≤ rd o (i : Int) ∧ rd o (i : Int) < o.length := by
  have : rd o (i : Int) ∈ o := by simp [rd, hi]
  exact h.2.1 _ this

end Go.Proofs.Ytcmllllbmgcnlaa.ChT

namespace Go.Proofs.Ytcmllllbmgcnlaa.ChT
open Go.RowKit Go.Proofs.Ytcmllllbmgcnlaa.C Go.Proofs.YtcmllllbmgcnlaaW.PrintWords Go.Proofs.YtcmllllbmgcnlaaW.PrintLast Go.Proofs.YtcmllllbmgcnlaaW.PrintMore
set_option linter.unusedVariables false
set_option linter.unusedSimpArgs false

/-! ### pigeons -/
theorem len_le {l m : List Int} (hn : l.Nodup) (hs : ∀ x ∈ l, x ∈ m) : l.length ≤ m.length := by
  induction l generalizing m with
  | nil => simp
  | cons a l ih =>
    rw [List.nodup_cons] at hn
    have ha : a ∈ m := hs a (by simp)
    have h1 := ih (m := m.erase a) hn.2 (fun x hx => by
      have hxa : x ≠ a := fun e => hn.1 (e ▸ hx)
      exact (List.mem_erase_of_ne hxa).2 (hs x (by simp [hx])))
    have h2 := List.length_erase_of_mem ha
    have h3 : 0 < m.length := List.length_pos_of_mem ha
    simp only [List.length_cons]
    omega
/-- 0 .. n-1. -/
def upto (n : Nat) : List Int := (List.range n).map (fun i : Nat => (i : Int))
theorem upto_len (n : Nat) : (upto n).length = n := by simp [upto]
theorem mem_upto {n : Nat} {x : Int} : x ∈ upto n ↔ 0 ≤ x ∧ x < n := by
  unfold upto
  simp only [List.mem_map, List.mem_range]
  constructor
  · rintro ⟨i, hi, rfl⟩; omega
  · intro h; exact ⟨x.toNat, by omega, by omega⟩
theorem upto_nodup (n : Nat) : (upto n).Nodup := by
  unfold upto
  refine List.Pairwise.map _ (fun (a b : Nat) h => ?_) List.nodup_range
  intro e; exact h (by omega)
theorem Rt.all {o : List Int} (h : Rt o) (x : Int) (h0 : 0 ≤ x) (hx : x < o.length) : x ∈ o := by
  apply Classical.byContradiction
  intro hn
  have h1 := len_le (l := o) (m := (upto o.length).erase x) h.2.2 (fun y hy => by
    have : y ≠ x := fun e => hn (e ▸ hy)
    exact (List.mem_erase_of_ne this).2 (mem_upto.2 (h.2.1 y hy)))
  have hm : x ∈ upto o.length := mem_upto.2 ⟨h0, hx⟩
  have h2 := List.length_erase_of_mem hm
  rw [upto_len] at h2
  omega
theorem Rt.of_all {o : List Int} (h8 : o.length ≤ 8) (h : ∀ i : Nat, i < o.length → (i : Int) ∈ o) : Rt o := by
  have hs : ∀ x ∈ upto o.length, x ∈ o := fun x hx => by
    have := mem_upto.1 hx
    have e := h x.toNat (by omega)
    rwa [show ((x.toNat : Nat) : Int) = x by omega] at e
  refine ⟨h8, fun c hc => ?_, ?_⟩
  · apply Classical.byContradiction
    intro hn
    have h1 := len_le (l := upto o.length) (m := o.erase c) (upto_nodup _) (fun x hx => by
      have : x ≠ c := fun e => hn (e ▸ mem_upto.1 hx)
      exact (List.mem_erase_of_ne this).2 (hs x hx))
    have h2 := List.length_erase_of_mem hc
    have h3 : 0 < o.length := List.length_pos_of_mem hc
    rw [upto_len] at h1
    omega
  · rw [List.nodup_iff_count]
    intro c
    apply Classical.byContradiction
    intro hn
    have hc : c ∈ o := List.count_pos_iff.1 (by omega)
    have h1 := len_le (l := upto o.length) (m := o.erase c) (upto_nodup _) (fun x hx => by
      by_cases e : x = c
      · subst e
        apply List.count_pos_iff.1
        rw [List.count_erase_self]; omega
      · exact (List.mem_erase_of_ne e).2 (hs x hx))
    have h2 := List.length_erase_of_mem hc
    have h3 : 0 < o.length := List.length_pos_of_mem hc
    rw [upto_len] at h1
    omega
theorem Rt.iff_all {o : List Int} : Rt o ↔ o.length ≤ 8 ∧ ∀ i : Nat, i < o.length → (i : Int) ∈ o :=
  ⟨fun h => ⟨h.1, fun i hi => h.all i (by omega) (by omega)⟩, fun h => Rt.of_all h.1 h.2⟩

/-! ### the tuples' turns -/
def turnS (o t : List Int) : List Int := if Fit o t then o.map (fun c => rd t c) else []
def backL : List Int → Nat → List Int → List Int → List Int
  | [], _, _, out => out
  | c :: o, i, t, out => backL o (i + 1) t (out.set c.toNat (rd t i))
def backS (o t : List Int) : List Int := if Fit o t then backL o 0 t (List.replicate t.length 0) else []

/-! ### heads -/
def headL : Nat → List Int → List Int → List Int → Bool
  | 0, _, _, _ => true
  | _ + 1, [], _, _ => true
  | k + 1, c :: o, a, b => decide (rd a c = rd b c) && headL k o a b
def headS (o : List Int) (k : Int) (a b : List Int) : Bool := decide (Fit o a ∧ Fit o b) && headL k.toNat o a b
theorem headL_more (o : List Int) (a b : List Int) (k : Nat) (h : o.length ≤ k) : headL k o a b = headL o.length o a b := by
  induction o generalizing k with
  | nil => cases k <;> rfl
  | cons c o ih =>
    simp only [List.length_cons] at h
    obtain ⟨k, rfl⟩ : ∃ q, k = q + 1 := ⟨k - 1, by omega⟩
    simp only [headL, List.length_cons]
    rw [ih k (by omega)]

/-! ### laws of the order -/
theorem cmpL_flip (o a b : List Int) : cmpL o b a = - cmpL o a b := by
  induction o with
  | nil => rfl
  | cons c o ih =>
    simp only [cmpL]
    by_cases h1 : rd a c < rd b c
    · rw [if_neg (by omega), if_pos (by omega), if_pos h1]; rfl
    · by_cases h2 : rd a c > rd b c
      · rw [if_pos (by omega), if_neg h1, if_pos h2]
      · rw [if_neg (by omega), if_neg (by omega), if_neg h1, if_neg h2, ih]
theorem cmpL_range (o a b : List Int) : cmpL o a b = -1 ∨ cmpL o a b = 0 ∨ cmpL o a b = 1 := by
  induction o with
  | nil => simp [cmpL]
  | cons c o ih =>
    simp only [cmpL]
    split
    · simp
    · split
      · simp
      · exact ih
theorem cmpL_zero (o a b : List Int) : cmpL o a b = 0 ↔ ∀ c ∈ o, rd a c = rd b c := by
  induction o with
  | nil => simp [cmpL]
  | cons c o ih =>
    simp only [cmpL, List.mem_cons, forall_eq_or_imp]
    by_cases h1 : rd a c < rd b c
    · rw [if_pos h1]; constructor
      · intro h; omega
      · intro h; omega
    · by_cases h2 : rd a c > rd b c
      · rw [if_neg h1, if_pos h2]; constructor
        · intro h; omega
        · intro h; omega
      · rw [if_neg h1, if_neg h2, ih]
        constructor
        · intro h; exact ⟨by omega, h⟩
        · intro h; exact h.2
theorem cmpL_trans (o a b c : List Int) (h1 : cmpL o a b ≤ 0) (h2 : cmpL o b c ≤ 0) : cmpL o a c ≤ 0 := by
  induction o with
  | nil => simp [cmpL]
  | cons x o ih =>
    simp only [cmpL] at h1 h2 ⊢
    by_cases p1 : rd a x < rd b x
    · by_cases p2 : rd b x < rd c x
      · rw [if_pos (by omega)]; omega
      · rw [if_neg p2] at h2
        by_cases p3 : rd b x > rd c x
        · rw [if_pos p3] at h2; omega
        · rw [if_pos (by omega)]; omega
    · rw [if_neg p1] at h1
      by_cases p2 : rd a x > rd b x
      · rw [if_pos p2] at h1; omega
      · rw [if_neg p2] at h1
        by_cases p3 : rd b x < rd c x
        · rw [if_pos (by omega)]; omega
        · rw [if_neg p3] at h2
          by_cases p4 : rd b x > rd c x
          · rw [if_pos p4] at h2; omega
          · rw [if_neg p4] at h2
            rw [if_neg (by omega), if_neg (by omega)]
            exact ih h1 h2
theorem cmpL_heads (o a b c : List Int) (h1 : cmpL o a b ≤ 0) (h2 : cmpL o b c ≤ 0) (k : Nat) (h : headL k o a c = true) : headL k o a b = true := by
  induction o generalizing k with
  | nil => cases k <;> rfl
  | cons x o ih =>
    cases k with
    | zero => rfl
    | succ k =>
      simp only [headL, Bool.and_eq_true, decide_eq_true_eq] at h ⊢
      simp only [cmpL] at h1 h2
      by_cases p1 : rd a x < rd b x
      · rw [if_neg (by omega), if_pos (by omega)] at h2; omega
      · rw [if_neg p1] at h1
        by_cases p2 : rd a x > rd b x
        · rw [if_pos p2] at h1; omega
        · rw [if_neg p2] at h1
          rw [if_neg (by omega), if_neg (by omega)] at h2
          exact ⟨by omega, ih h1 h2 k h.2⟩
theorem rd_ext {a b : List Int} (hl : a.length = b.length) (h : ∀ i : Nat, i < a.length → rd a (i : Int) = rd b (i : Int)) : a = b := by
  apply List.ext_getElem hl
  intro j h1 h2
  have := h j h1
  simpa [rd, h1, h2] using this
theorem same_of_order {o a b : List Int} (ha : Fit o a) (hb : Fit o b) (h : ∀ c ∈ o, rd a c = rd b c) : a = b := by
  refine rd_ext (by rw [ha.1, hb.1]) (fun i hi => h _ ?_)
  exact ha.2.all _ (by omega) (by rw [← ha.1]; omega)

end Go.Proofs.Ytcmllllbmgcnlaa.ChT

namespace Go.Proofs.Ytcmllllbmgcnlaa.ChT
open Go.RowKit Go.Proofs.Ytcmllllbmgcnlaa.C Go.Proofs.YtcmllllbmgcnlaaW.PrintWords Go.Proofs.YtcmllllbmgcnlaaW.PrintLast Go.Proofs.YtcmllllbmgcnlaaW.PrintMore
set_option linter.unusedVariables false
set_option linter.unusedSimpArgs false

/-- A slice of whole numbers that is read. -/
structure Sl (w : World) (A : Option Addr) (c : Nat) (l : List Int) : Prop where
  C : Kd.C (Kd.int .i64) w A l.length l
  le : l.length ≤ c
theorem Sl.below {w w1 : World} {A : Option Addr} {c : Nat} {l : List Int} (h : Sl w A c l) (hb : Below w.heap.size w w1) : Sl w1 A c l := ⟨Kd.C_below h.C hb, h.le⟩
theorem Sl.alloc {w : World} {A : Option Addr} {c : Nat} {l : List Int} (h : Sl w A c l) (o : Obj) : Sl (w.alloc o) A c l := ⟨Kd.C_alloc h.C o, h.le⟩
theorem Sl.drewN {w : World} {A : Option Addr} {c : Nat} {l : List Int} (h : Sl w A c l) (n : Nat) : Sl (w.drewN n) A c l := ⟨Kd.C_drewN h.C n, h.le⟩
theorem Sl.drew {w : World} {A : Option Addr} {c : Nat} {l : List Int} (h : Sl w A c l) : Sl w.drew A c l := ⟨Kd.C_drew h.C, h.le⟩
theorem Sl.V {w : World} {A : Option Addr} {c : Nat} {l : List Int} (h : Sl w A c l) : Kd.V (Kd.int .i64) 3 w w.heap.size (fun k => k < w.heap.size) (.slice A l.length c) l := Kd.V_mk h.le (Kd.C_F (Kd.heap_int .i64) h.C)
theorem Sl.small {w : World} {A : Option Addr} {c : Nat} {l : List Int} (h : Sl w A c l) : l.length ≤ 9223372036854775807 := Kd.F_max (Kd.C_F (Kd.heap_int .i64) h.C)

end Go.Proofs.Ytcmllllbmgcnlaa.ChT

namespace Go.Proofs.Ytcmllllbmgcnlaa.ChT
open Go.RowKit Go.Proofs.Ytcmllllbmgcnlaa.C Go.Proofs.YtcmllllbmgcnlaaW.PrintWords Go.Proofs.YtcmllllbmgcnlaaW.PrintLast Go.Proofs.YtcmllllbmgcnlaaW.PrintMore
set_option linter.unusedVariables false
set_option linter.unusedSimpArgs false

/-! ### sets of columns as numbers -/
/-- The set of a list of columns, onto a set. -/
def orL : List Int → Nat → Nat
  | [], m => m
  | c :: o, m => orL o (m ||| 2 ^ c.toNat)
/-- How many columns a set below 256 has. -/
def popN (m : Nat) : Nat := ((List.range 8).filter fun j => m.testBit j).length

set_option maxRecDepth 100000 in
theorem pop_all : ∀ m : Fin 256, (bits_OnesCount.f (IntKind.u64.wrap (m.val : Int)) = some ((popN m.val : Nat) : Int)) ∧ (∀ c : Fin 8, m.val.testBit c.val = false → popN (m.val ||| 2 ^ c.val) = popN m.val + 1) ∧ (∀ n : Fin 9, m.val < 2 ^ n.val → popN m.val ≤ n.val) := by decide +kernel
theorem pop_is (m : Nat) (h : m < 256) : bits_OnesCount.f (IntKind.u64.wrap (m : Int)) = some ((popN m : Nat) : Int) := (pop_all ⟨m, h⟩).1
theorem pop_set (m : Nat) (h : m < 256) (c : Nat) (hc : c < 8) (ht : m.testBit c = false) : popN (m ||| 2 ^ c) = popN m + 1 := (pop_all ⟨m, h⟩).2.1 ⟨c, hc⟩ ht
theorem pop_le (m : Nat) (h : m < 256) (n : Nat) (hn : n < 9) (hm : m < 2 ^ n) : popN m ≤ n := (pop_all ⟨m, h⟩).2.2 ⟨n, hn⟩ hm

theorem orL_lt (o : List Int) (hr : ∀ c ∈ o, 0 ≤ c ∧ c < 8) (m : Nat) (hm : m < 256) : orL o m < 256 := by
  induction o generalizing m with
  | nil => exact hm
  | cons c o ih =>
    have h := hr c (by simp)
    exact ih (fun x hx => hr x (by simp [hx])) _ (set_lt m hm c.toNat (by omega))
/-- n distinct columns more. -/
theorem pop_orL (o : List Int) (hr : ∀ c ∈ o, 0 ≤ c ∧ c < 8) (hn : o.Nodup) (m : Nat) (hm : m < 256) (hd : ∀ c ∈ o, m.testBit c.toNat = false) : popN (orL o m) = popN m + o.length := by
  induction o generalizing m with
  | nil => rfl
  | cons c o ih =>
    have h := hr c (by simp)
    rw [List.nodup_cons] at hn
    have hs := set_lt m hm c.toNat (by omega)
    rw [orL, ih (fun x hx => hr x (by simp [hx])) hn.2 _ hs (fun x hx => by
      have hx8 := hr x (by simp [hx])
      have hne : x ≠ c := fun e => hn.1 (e ▸ hx)
      have := hd x (by simp [hx])
      cases ht : (m ||| 2 ^ c.toNat).testBit x.toNat with
      | false => rfl
      | true =>
        rcases (test_set m c.toNat x.toNat).1 ht with h1 | h1
        · rw [this] at h1; cases h1
        · exact absurd (by omega : x = c) hne), pop_set m hm c.toNat (by omega) (hd c (by simp))]
    simp only [List.length_cons]; omega

/-- What Cover answers. -/
def coverS (o : List Int) (cols : Int) : Int × Bool :=
  if Rt o ∧ 0 ≤ cols ∧ cols < 2 ^ o.length then
    if orL (o.take (popN cols.toNat)) 0 = cols.toNat then (((popN cols.toNat : Nat) : Int), true) else (0, false)
  else (0, false)

theorem shr_zero (cols : Int) (h0 : 0 ≤ cols) (n : Nat) (hn : n ≤ 8) : (shr .i64 cols (n : Int) != 0) = !decide (cols < 2 ^ n) := by
  have hb : min ((n : Int)).toNat IntKind.i64.bits = n := by
    rw [Int.toNat_natCast]; have : IntKind.i64.bits = 64 := rfl; omega
  unfold shr
  rw [hb]
  have hp : (0 : Int) < 2 ^ n := Int.pow_pos (by decide)
  by_cases h : cols < 2 ^ n
  · rw [Int.ediv_eq_zero_of_lt h0 h]; simp [h]
  · have : cols / 2 ^ n ≠ 0 := by
      intro e
      have h1 := Int.lt_ediv_add_one_mul_self cols hp
      rw [e] at h1; simp at h1; exact h h1
    simp [h, this]

theorem cover_loop (cols n : Int) (tk : List Int) (hr : ∀ c ∈ tk, 0 ≤ c ∧ c < 8) (h8 : tk.length ≤ 8) : ∀ (rest pre : List Int) (m k : Nat), tk = pre ++ rest → m < 256 → rest.length < k →
    tuple_Cover.l0 k cols n (m : Int) tk (tk.length : Int) (pre.length : Int) = some (if ((orL rest m : Nat) : Int) = cols then (n, true) else (0, false)) := by
  intro rest
  induction rest with
  | nil =>
    intro pre m k e hm hk
    obtain ⟨k, rfl⟩ : ∃ q, k = q + 1 := ⟨k - 1, by omega⟩
    have e' : pre = tk := by simpa using e.symm
    subst e'
    simp only [tuple_Cover.l0]
    rw [if_neg (by omega)]
    have e0 : orL [] m = m := rfl
    rw [e0]
    by_cases h : (m : Int) = cols
    · rw [if_pos h, if_pos h]
    · rw [if_neg h, if_neg h]
  | cons c rest ih =>
    intro pre m k e hm hk
    simp only [List.length_cons] at hk
    obtain ⟨k, rfl⟩ : ∃ q, k = q + 1 := ⟨k - 1, by omega⟩
    have hl : tk.length = pre.length + (rest.length + 1) := by rw [e]; simp
    have hat := rd_at e
    have hmem := hr c (by rw [e]; simp)
    obtain ⟨d, rfl⟩ : ∃ d : Nat, c = (d : Int) := ⟨c.toNat, by omega⟩
    simp only [tuple_Cover.l0]
    rw [if_pos (by omega), if_pos (by omega), if_pos (by omega), hat, if_pos (by omega), bit_set m hm d (by omega), wrap_nat _ (by omega)]
    have key := ih (pre ++ [(d : Int)]) (m ||| 2 ^ d) k (by rw [e]; simp) (set_lt m hm d (by omega)) (by omega)
    simp only [List.length_append, List.length_cons, List.length_nil, Nat.zero_add] at key
    exact key

theorem pow_le_8 (n : Nat) (h : n ≤ 8) : (2 : Int) ^ n ≤ 256 := by
  have h1 : (2 : Nat) ^ n ≤ 256 := Nat.pow_le_pow_right (n := 2) (i := n) (j := 8) (by decide) h
  have e : ((2 ^ n : Nat) : Int) = (2 : Int) ^ n := by simp
  omega

theorem cover_is (k : Nat) (o : List Int) (cols : Int) (hk : o.length + 12 < k) : tuple_Cover.f k o cols = some (coverS o cols) := by
  obtain ⟨k, rfl⟩ : ∃ q, k = q + 1 := ⟨k - 1, by omega⟩
  unfold tuple_Cover.f coverS
  rw [right_is _ _ (by omega)]
  simp only [Option.bind_some, decide_eq_true_eq]
  by_cases hR : Rt o
  · rw [if_pos hR]
    by_cases h0 : cols < 0
    · rw [if_pos h0, if_neg (by omega)]
      simp only [tuple_Cover.j0]; rfl
    · rw [if_neg h0, shr_zero cols (by omega) o.length hR.1]
      by_cases h1 : cols < 2 ^ o.length
      · have h256 := pow_le_8 o.length hR.1
        obtain ⟨m, rfl⟩ : ∃ m : Nat, cols = (m : Int) := ⟨cols.toNat, by omega⟩
        have hm : m < 256 := by omega
        have hm2 : m < 2 ^ o.length := by exact_mod_cast h1
        have hpl := pop_le m hm o.length (by have := hR.1; omega) hm2
        rw [if_pos ⟨hR, by omega, h1⟩, decide_eq_true h1]
        simp only [tuple_Cover.j0, Bool.not_true, pop_is m hm, Option.bind_some, Int.toNat_natCast]
        rw [if_neg (by simp), if_pos (by omega), if_pos (by omega)]
        have hr8 : ∀ c ∈ o.take (popN m), 0 ≤ c ∧ c < 8 := fun c hc => by
          have := hR.2.1 c (List.mem_of_mem_take hc); have := hR.1; omega
        have := cover_loop (m : Int) (popN m : Int) (o.take (popN m)) hr8 (by have := hR.1; simp; omega) (o.take (popN m)) [] 0 k (by simp) (by decide) (by have := hR.1; simp; omega)
        simp only [List.length_nil] at this
        refine Eq.trans this ?_
        congr 1
        by_cases hq : orL (o.take (popN m)) 0 = m
        · rw [if_pos (by rw [hq]), if_pos hq]
        · rw [if_neg (by omega), if_neg hq]
      · rw [if_neg (fun h => h1 h.2.2), decide_eq_false h1]
        simp only [tuple_Cover.j0, Bool.not_false]; rfl
  · rw [if_neg hR, if_neg (fun h => hR h.1)]
    simp only [tuple_Cover.j0]; rfl

/-! ### the reference -/
theorem has_loop (l : List Int) (x : Int) (hn : l.length ≤ 9223372036854775806) : ∀ (rest pre : List Int) (k : Nat), l = pre ++ rest → rest.length < k →
    vestryref04_Has.l0 k l x (pre.length : Int) = some (decide (x ∈ rest)) := by
  intro rest
  induction rest with
  | nil =>
    intro pre k e hk
    obtain ⟨k, rfl⟩ : ∃ q, k = q + 1 := ⟨k - 1, by omega⟩
    have e' : pre = l := by simpa using e.symm
    subst e'
    simp only [vestryref04_Has.l0]
    rw [if_neg (by omega)]; simp
  | cons c rest ih =>
    intro pre k e hk
    simp only [List.length_cons] at hk
    obtain ⟨k, rfl⟩ : ∃ q, k = q + 1 := ⟨k - 1, by omega⟩
    have hl : l.length = pre.length + (rest.length + 1) := by rw [e]; simp
    have hat := rd_at e
    simp only [vestryref04_Has.l0]
    rw [if_pos (by omega), if_pos (by omega), hat]
    by_cases h : c = x
    · rw [if_pos h]; simp [h]
    · rw [if_neg h, wrap_nat _ (by omega)]
      have key := ih (pre ++ [c]) k (by rw [e]; simp) (by omega)
      simp only [List.length_append, List.length_cons, List.length_nil, Nat.zero_add] at key
      rw [key]
      simp [show ¬ x = c from fun e => h e.symm]
theorem has_is (k : Nat) (l : List Int) (x : Int) (hn : l.length ≤ 9223372036854775806) (hk : l.length < k) : vestryref04_Has.f k l x = some (decide (x ∈ l)) := by
  have := has_loop l x hn l [] k (by simp) hk
  simpa [vestryref04_Has.f] using this

theorem rright_loop (o : List Int) (hn : o.length ≤ 9223372036854775806) : ∀ (d i k : Nat), o.length - i = d → i ≤ o.length → o.length + d + 1 < k → (∀ j : Nat, j < i → (j : Int) ∈ o) →
    vestryref04_Right.l0 k o (i : Int) = some (decide (Rt o)) := by
  intro d
  induction d with
  | zero =>
    intro i k hd hi hk h
    obtain ⟨k, rfl⟩ : ∃ q, k = q + 1 := ⟨k - 1, by omega⟩
    simp only [vestryref04_Right.l0]
    rw [if_neg (by omega)]
    congr 1
    by_cases h8 : o.length ≤ 8
    · rw [decide_eq_true (by omega : (o.length : Int) ≤ 8), decide_eq_true (Rt.of_all h8 (fun j hj => h j (by omega)))]
    · rw [decide_eq_false (by omega : ¬ (o.length : Int) ≤ 8), decide_eq_false (fun hR : Rt o => h8 hR.1)]
  | succ d ih =>
    intro i k hd hi hk h
    obtain ⟨k, rfl⟩ : ∃ q, k = q + 1 := ⟨k - 1, by omega⟩
    simp only [vestryref04_Right.l0]
    rw [if_pos (by omega), has_is k o i hn (by omega)]
    simp only [Option.bind_some, decide_eq_true_eq]
    by_cases hin : (i : Int) ∈ o
    · rw [if_pos hin, wrap_nat _ (by omega)]
      refine ih (i + 1) k (by omega) (by omega) (by omega) (fun j hj => ?_)
      by_cases hji : j = i
      · subst hji; exact hin
      · exact h j (by omega)
    · rw [if_neg hin, decide_eq_false (fun hR : Rt o => hin (hR.all _ (by omega) (by omega)))]
theorem rright_is (k : Nat) (o : List Int) (hn : o.length ≤ 9223372036854775806) (hk : 2 * o.length + 1 < k) : vestryref04_Right.f k o = some (decide (Rt o)) :=
  rright_loop o hn o.length 0 k (by omega) (by omega) (by omega) (fun j hj => by omega)

/-! ### the reference's Cover -/
theorem rcover_loop (o : List Int) (hR : Rt o) (cols : Nat) (hc : cols < 256) : ∀ (d : Nat) (pre rest : List Int) (k : Nat), rest.length = d → o = pre ++ rest → popN (orL pre 0) = pre.length → 2 * rest.length + 1 < k → (∀ i, i < pre.length → orL (o.take i) 0 ≠ cols) →
    vestryref04_Cover.l0 k o (cols : Int) ((orL pre 0 : Nat) : Int) (pre.length : Int) = some (if orL (o.take (popN cols)) 0 = cols ∧ popN cols ≤ o.length then (((popN cols : Nat) : Int), true) else (0, false)) := by
  have hr8 : ∀ c ∈ o, 0 ≤ c ∧ c < 8 := fun c hc => by have := hR.2.1 c hc; have := hR.1; omega
  intro d
  induction d with
  | zero =>
    intro pre rest k hd e hp hk hno
    obtain ⟨k, rfl⟩ : ∃ q, k = q + 1 := ⟨k - 1, by omega⟩
    have : rest = [] := List.length_eq_zero_iff.1 hd
    subst this
    have e' : pre = o := by simpa using e.symm
    subst e'
    simp only [vestryref04_Cover.l0]
    by_cases h : ((orL pre 0 : Nat) : Int) = (cols : Int)
    · have h' : orL pre 0 = cols := by omega
      have hpc : popN cols = pre.length := by rw [← h', hp]
      rw [if_pos h, if_pos ⟨by rw [hpc, List.take_length, h'], by omega⟩, hpc]
    · rw [if_neg h, if_pos trivial, if_neg]
      rintro ⟨h1, h2⟩
      by_cases hl : popN cols < pre.length
      · exact hno _ hl h1
      · have hpc : popN cols = pre.length := by omega
        rw [hpc, List.take_length] at h1
        omega
  | succ d ih =>
    intro pre rest k hd e hp hk hno
    obtain ⟨k, rfl⟩ : ∃ q, k = q + 1 := ⟨k - 1, by omega⟩
    match rest, hd with
    | c :: rest, hd =>
      simp only [List.length_cons] at hd hk
      have hl : o.length = pre.length + (rest.length + 1) := by rw [e]; simp
      have hat := rd_at e
      have hmem := hr8 c (by rw [e]; simp)
      obtain ⟨x, rfl⟩ : ∃ x : Nat, c = (x : Int) := ⟨c.toNat, by omega⟩
      have hpre : o.take pre.length = pre := by rw [e]; simp
      have hlt : orL pre 0 < 256 := orL_lt pre (fun c hc => hr8 c (by rw [e]; simp [hc])) 0 (by decide)
      simp only [vestryref04_Cover.l0]
      by_cases h : ((orL pre 0 : Nat) : Int) = (cols : Int)
      · have h' : orL pre 0 = cols := by omega
        have hpc : popN cols = pre.length := by rw [← h', hp]
        rw [if_pos h, if_pos ⟨by rw [hpc, hpre, h'], by omega⟩, hpc]
      · rw [if_neg h, if_neg (by omega), if_pos (by omega), if_pos (by omega), hat, if_pos (by omega), bit_set _ hlt x (by omega), wrap_nat _ (by have := hR.1; omega)]
        have hor : orL (pre ++ [(x : Int)]) 0 = orL pre 0 ||| 2 ^ x := by
          have : ∀ (l : List Int) (m : Nat), orL (l ++ [(x : Int)]) m = orL l m ||| 2 ^ x := by
            intro l
            induction l with
            | nil => intro m; simp [orL]
            | cons y l ih2 => intro m; simp [orL, ih2]
          exact this pre 0
        have hnd : (pre ++ [(x : Int)]).Nodup := by
          have := hR.2.2
          rw [e, show pre ++ (x : Int) :: rest = (pre ++ [(x : Int)]) ++ rest by simp, List.nodup_append] at this
          exact this.1
        have hp2 : popN (orL (pre ++ [(x : Int)]) 0) = (pre ++ [(x : Int)]).length := by
          have := pop_orL (pre ++ [(x : Int)]) (fun c hc => hr8 c (by rw [e]; simp at hc ⊢; rcases hc with h | h <;> simp [h])) hnd 0 (by decide) (fun c _ => by simp)
          have h0 : popN 0 = 0 := by decide
          omega
        have key := ih (pre ++ [(x : Int)]) rest k (by omega) (by rw [e]; simp) hp2 (by omega) (fun i hi => by
          simp only [List.length_append, List.length_cons, List.length_nil] at hi
          by_cases hi2 : i < pre.length
          · exact hno i hi2
          · have : i = pre.length := by omega
            rw [this, hpre]; omega)
        rw [hor] at key
        simpa using key

theorem rcover_is (k : Nat) (o : List Int) (cols : Int) (hn : o.length ≤ 9223372036854775806) (hk : 2 * o.length + 3 < k) : vestryref04_Cover.f k o cols = some (coverS o cols) := by
  obtain ⟨k, rfl⟩ : ∃ q, k = q + 1 := ⟨k - 1, by omega⟩
  unfold vestryref04_Cover.f coverS
  rw [rright_is _ _ hn (by omega)]
  simp only [Option.bind_some, decide_eq_true_eq]
  by_cases hR : Rt o
  · rw [if_pos hR]
    by_cases h0 : cols < 0
    · rw [if_pos h0, if_neg (by omega)]
      simp only [vestryref04_Cover.j0]; rfl
    · rw [if_neg h0, shr_zero cols (by omega) o.length hR.1]
      by_cases h1 : cols < 2 ^ o.length
      · have h256 := pow_le_8 o.length hR.1
        obtain ⟨m, rfl⟩ : ∃ m : Nat, cols = (m : Int) := ⟨cols.toNat, by omega⟩
        have hm : m < 256 := by omega
        have hm2 : m < 2 ^ o.length := by exact_mod_cast h1
        have hpl := pop_le m hm o.length (by have := hR.1; omega) hm2
        rw [if_pos ⟨hR, by omega, h1⟩, decide_eq_true h1]
        simp only [vestryref04_Cover.j0, Bool.not_true, Int.toNat_natCast]
        rw [if_neg (by simp)]
        have := rcover_loop o hR m hm o.length [] o k rfl (by simp) (by decide) (by omega) (fun i hi => by simp at hi)
        have h00 : ((orL [] 0 : Nat) : Int) = 0 := rfl
        rw [h00] at this
        refine Eq.trans this ?_
        congr 1
        by_cases hq : orL (o.take (popN m)) 0 = m
        · rw [if_pos ⟨hq, hpl⟩, if_pos hq]
        · rw [if_neg (fun h => hq h.1), if_neg hq]
      · rw [if_neg (fun h => h1 h.2.2), decide_eq_false h1]
        simp only [vestryref04_Cover.j0, Bool.not_false]; rfl
  · rw [if_neg hR, if_neg (fun h => hR h.1)]
    simp only [vestryref04_Cover.j0]; rfl

/-! ### columns -/
def colsS (l : List Int) : Int × Int := if ∀ c ∈ l, 0 ≤ c ∧ c < 8 then (((orL l 0 : Nat) : Int), 0) else (0, 1)
end Go.Proofs.Ytcmllllbmgcnlaa.ChT

namespace Go.Proofs.Ytcmllllbmgcnlaa.Ch
set_option linter.unusedVariables false
set_option linter.unusedSimpArgs false

/-- A row without doubles is no longer than a row that has all of it. -/
theorem le_of_nodup {α : Type} : ∀ {a b : List α}, a.Nodup → (∀ x ∈ a, x ∈ b) → a.length ≤ b.length
  | [], _, _, _ => Nat.zero_le _
  | x :: a, b, hn, h => by
    classical
    have hx : x ∈ b := h x (List.mem_cons_self ..)
    obtain ⟨hxa, hna⟩ := List.nodup_cons.1 hn
    obtain ⟨p, q, rfl⟩ := List.append_of_mem hx
    have := le_of_nodup (a := a) (b := p ++ q) hna (fun y hy => by
      have hyb := h y (List.mem_cons_of_mem _ hy)
      rcases List.mem_append.1 hyb with h1 | h1
      · exact List.mem_append_left _ h1
      · rcases List.mem_cons.1 h1 with h2 | h2
        · exact absurd (h2 ▸ hy) hxa
        · exact List.mem_append_right _ h2)
    simp at this ⊢
    omega

theorem eq_of_nodup {α : Type} {a b : List α} (ha : a.Nodup) (hb : b.Nodup) (h : ∀ x, x ∈ a ↔ x ∈ b) : a.length = b.length :=
  Nat.le_antisymm (le_of_nodup ha fun x hx => (h x).1 hx) (le_of_nodup hb fun x hx => (h x).2 hx)

/-- Pairs: each in the relation, no first twice, no second twice. -/
structure Pairs {α : Type} (R : α → α → Prop) (M : List (α × α)) : Prop where
  rel : ∀ p ∈ M, R p.1 p.2
  fst : (M.map (·.1)).Nodup
  snd : (M.map (·.2)).Nodup

/-- m is the most pairs there can be. -/
def Most {α : Type} (R : α → α → Prop) (m : Nat) : Prop := (∃ M, Pairs R M ∧ M.length = m) ∧ ∀ M, Pairs R M → M.length ≤ m

theorem Most.eq {α : Type} {R : α → α → Prop} {m k : Nat} (h : Most R m) (g : Most R k) : m = k := by
  obtain ⟨⟨M, hM, rfl⟩, h2⟩ := h
  obtain ⟨⟨N, hN, rfl⟩, g2⟩ := g
  exact Nat.le_antisymm (g2 _ hM) (h2 _ hN)

/-- What a search for pairs leaves: fr tells of a second which first is its; F are the firsts without one; D shows why. -/
structure Fin (n : Nat) (E : Nat → Nat → Prop) (fr : Nat → Int) (F : List Nat) (D : Nat → Prop) : Prop where
  inj : ∀ k k', k < n → k' < n → 0 ≤ fr k → fr k = fr k' → k = k'
  rng : ∀ k, k < n → 0 ≤ fr k → (fr k).toNat < n ∧ E (fr k).toNat k
  nodup : F.Nodup
  mem : ∀ s, s ∈ F ↔ s < n ∧ ∀ k, k < n → fr k ≠ (s : Int)
  dead : ∀ k, D k → k < n ∧ 0 ≤ fr k ∧ ∀ k', k' < n → E (fr k).toNat k' → D k'
  fail : ∀ s ∈ F, ∀ k, k < n → E s k → D k

section
variable {n : Nat} {E : Nat → Nat → Prop} {fr : Nat → Int} {F : List Nat} {D : Nat → Prop}
open Classical in
theorem nodup_map_on {α β : Type} {f : α → β} : ∀ {l : List α}, l.Nodup → (∀ x ∈ l, ∀ y ∈ l, f x = f y → x = y) → (l.map f).Nodup
  | [], _, _ => List.nodup_nil
  | x :: l, h, hf => by
    obtain ⟨h1, h2⟩ := List.nodup_cons.1 h
    rw [List.map_cons, List.nodup_cons]
    refine ⟨fun hm => ?_, nodup_map_on h2 fun a ha b hb => hf a (List.mem_cons_of_mem _ ha) b (List.mem_cons_of_mem _ hb)⟩
    obtain ⟨y, hy, e⟩ := List.mem_map.1 hm
    exact h1 (hf y (List.mem_cons_of_mem _ hy) x (List.mem_cons_self ..) e ▸ hy)

/-- The seconds that have a first. -/
def Fin.dom (n : Nat) (fr : Nat → Int) : List Nat := (List.range n).filter fun k => decide (0 ≤ fr k)
theorem Fin.mem_dom {k : Nat} : k ∈ Fin.dom n fr ↔ k < n ∧ 0 ≤ fr k := by simp [Fin.dom, List.mem_filter]
theorem Fin.dom_nodup : (Fin.dom n fr).Nodup := List.Nodup.sublist List.filter_sublist List.nodup_range

theorem filter_split {α : Type} (p : α → Bool) : ∀ l : List α, (l.filter p).length + (l.filter fun x => !p x).length = l.length
  | [] => rfl
  | x :: l => by
    have := filter_split p l
    cases h : p x <;> simp [h] <;> omega

theorem Fin.dom_length (h : Fin n E fr F D) : (Fin.dom n fr).length + F.length = n := by
  have h1 : ((Fin.dom n fr).map fun k => (fr k).toNat).Nodup := nodup_map_on Fin.dom_nodup fun x hx y hy e => by
    obtain ⟨hx1, hx2⟩ := Fin.mem_dom.1 hx
    obtain ⟨hy1, hy2⟩ := Fin.mem_dom.1 hy
    exact h.inj x y hx1 hy1 hx2 (by omega)
  have h2 : (((Fin.dom n fr).map fun k => (fr k).toNat) ++ F).Nodup := by
    rw [List.nodup_append]
    refine ⟨h1, h.nodup, fun a ha b hb e => ?_⟩
    subst e
    obtain ⟨k, hk, rfl⟩ := List.mem_map.1 ha
    obtain ⟨hk1, hk2⟩ := Fin.mem_dom.1 hk
    exact ((h.mem _).1 hb).2 k hk1 (by omega)
  have h3 := eq_of_nodup h2 (List.nodup_range (n := n)) fun x => by
    rw [List.mem_append, List.mem_map, List.mem_range]
    constructor
    · rintro (⟨k, hk, rfl⟩ | hx)
      · exact (h.rng k (Fin.mem_dom.1 hk).1 (Fin.mem_dom.1 hk).2).1
      · exact ((h.mem _).1 hx).1
    · intro hx
      by_cases hf : ∃ k, k < n ∧ fr k = (x : Int)
      · obtain ⟨k, hk, e⟩ := hf
        exact .inl ⟨k, Fin.mem_dom.2 ⟨hk, by omega⟩, by omega⟩
      · exact .inr ((h.mem _).2 ⟨hx, fun k hk e => hf ⟨k, hk, e⟩⟩)
  simpa using h3

/-- The seconds without a first: as many as the firsts without a second. -/
theorem Fin.free_length (h : Fin n E fr F D) : ((List.range n).filter fun k => decide (fr k < 0)).length = F.length := by
  have h1 := filter_split (fun k => decide (0 ≤ fr k)) (List.range n)
  have h2 := h.dom_length
  have h3 : ((List.range n).filter fun k => !decide (0 ≤ fr k)) = (List.range n).filter fun k => decide (fr k < 0) := by
    congr 1; funext k
    by_cases h : 0 ≤ fr k
    · rw [decide_eq_true h, decide_eq_false (by omega)]; rfl
    · rw [decide_eq_false h, decide_eq_true (by omega)]; rfl
  rw [h3] at h1
  unfold Fin.dom at h2
  simp at h1 h2 ⊢
  omega

open Classical in
theorem Fin.most (h : Fin n E fr F D) : Most (fun s k => s < n ∧ k < n ∧ E s k) (n - F.length) := by
  have hd := h.dom_length
  constructor
  · refine ⟨(Fin.dom n fr).map fun k => ((fr k).toNat, k), ⟨?_, ?_, ?_⟩, by simp; omega⟩
    · intro p hp
      obtain ⟨k, hk, rfl⟩ := List.mem_map.1 hp
      obtain ⟨hk1, hk2⟩ := Fin.mem_dom.1 hk
      exact ⟨(h.rng k hk1 hk2).1, hk1, (h.rng k hk1 hk2).2⟩
    · rw [List.map_map]
      exact nodup_map_on Fin.dom_nodup fun x hx y hy e => by
        obtain ⟨hx1, hx2⟩ := Fin.mem_dom.1 hx
        obtain ⟨hy1, hy2⟩ := Fin.mem_dom.1 hy
        simp at e
        exact h.inj x y hx1 hy1 hx2 (by omega)
    · rw [List.map_map]
      exact nodup_map_on Fin.dom_nodup fun x hx y hy e => e
  · intro M hM
    have hDl : ∃ Dl : List Nat, Dl.Nodup ∧ ∀ k, k ∈ Dl ↔ D k := ⟨(List.range n).filter fun k => decide (D k), List.Nodup.sublist List.filter_sublist List.nodup_range, fun k => by
      simp [List.mem_filter]; exact fun hk => (h.dead k hk).1⟩
    obtain ⟨Dl, hDn, hDm⟩ := hDl
    -- the firsts whose every second is dead
    have hS1 : (Dl.map fun k => (fr k).toNat).Nodup := nodup_map_on hDn fun x hx y hy e => by
      have hx' := h.dead x ((hDm x).1 hx)
      have hy' := h.dead y ((hDm y).1 hy)
      exact h.inj x y hx'.1 hy'.1 hx'.2.1 (by omega)
    have hS : ((Dl.map fun k => (fr k).toNat) ++ F).Nodup := by
      rw [List.nodup_append]
      refine ⟨hS1, h.nodup, fun a ha b hb e => ?_⟩
      subst e
      obtain ⟨k, hk, rfl⟩ := List.mem_map.1 ha
      have hk' := h.dead k ((hDm k).1 hk)
      exact ((h.mem _).1 hb).2 k hk'.1 (by omega)
    obtain ⟨S, hSe⟩ : ∃ S, S = (Dl.map fun k => (fr k).toNat) ++ F := ⟨_, rfl⟩
    rw [← hSe] at hS
    have hSl : S.length = Dl.length + F.length := by rw [hSe]; simp
    have hSn : ∀ s ∈ S, s < n := fun s hs => by
      rw [hSe, List.mem_append] at hs
      rcases hs with hs | hs
      · obtain ⟨k, hk, rfl⟩ := List.mem_map.1 hs
        have hk' := h.dead k ((hDm k).1 hk)
        exact (h.rng k hk'.1 hk'.2.1).1
      · exact ((h.mem _).1 hs).1
    have hSd : ∀ s ∈ S, ∀ k, k < n → E s k → k ∈ Dl := fun s hs k hk he => by
      rw [hDm]
      rw [hSe, List.mem_append] at hs
      rcases hs with hs | hs
      · obtain ⟨k', hk', rfl⟩ := List.mem_map.1 hs
        exact (h.dead k' ((hDm k').1 hk')).2.2 k hk he
      · exact h.fail s hs k hk he
    have hsp := filter_split (fun p : Nat × Nat => decide (p.1 ∈ S)) M
    have hin : (M.filter fun p => decide (p.1 ∈ S)).length ≤ Dl.length := by
      have : ((M.filter fun p => decide (p.1 ∈ S)).map (·.2)).Nodup := List.Nodup.sublist (List.Sublist.map _ List.filter_sublist) hM.snd
      have := le_of_nodup this (b := Dl) fun k hk => by
        obtain ⟨p, hp, rfl⟩ := List.mem_map.1 hk
        obtain ⟨hp1, hp2⟩ := List.mem_filter.1 hp
        obtain ⟨_, h2, h3⟩ := hM.rel p hp1
        exact hSd p.1 (of_decide_eq_true hp2) p.2 h2 h3
      simpa using this
    have hout : (M.filter fun p => !decide (p.1 ∈ S)).length + S.length ≤ n := by
      have h1 : ((M.filter fun p => !decide (p.1 ∈ S)).map (·.1)).Nodup := List.Nodup.sublist (List.Sublist.map _ List.filter_sublist) hM.fst
      have h2 : (((M.filter fun p => !decide (p.1 ∈ S)).map (·.1)) ++ S).Nodup := by
        rw [List.nodup_append]
        refine ⟨h1, hS, fun a ha b hb e => ?_⟩
        subst e
        obtain ⟨p, hp, rfl⟩ := List.mem_map.1 ha
        have := (List.mem_filter.1 hp).2
        simp at this
        exact this hb
      have := le_of_nodup h2 (b := List.range n) fun x hx => by
        rw [List.mem_range]
        rcases List.mem_append.1 hx with hx | hx
        · obtain ⟨p, hp, rfl⟩ := List.mem_map.1 hx
          exact (hM.rel p (List.mem_filter.1 hp).1).1
        · exact hSn x hx
      simpa using this
    omega
end

/-- From places in a row without doubles to what stands there. -/
theorem most_values {α : Type} [Inhabited α] {R : α → α → Prop} {L : List α} {m : Nat} (hn : L.Nodup) (h : Most (fun s k => s < L.length ∧ k < L.length ∧ R L[s]! L[k]!) m) : Most (fun x y => x ∈ L ∧ y ∈ L ∧ R x y) m := by
  obtain ⟨⟨M, hM, rfl⟩, h2⟩ := h
  have hinj : ∀ i j, i < L.length → j < L.length → L[i]! = L[j]! → i = j := fun i j hi hj e => by
    rw [getElem!_pos L i hi, getElem!_pos L j hj] at e
    exact (List.getElem_inj hn).1 e
  constructor
  · refine ⟨M.map fun p => (L[p.1]!, L[p.2]!), ⟨?_, ?_, ?_⟩, by simp⟩
    · intro p hp
      obtain ⟨q, hq, rfl⟩ := List.mem_map.1 hp
      obtain ⟨h1, h2, h3⟩ := hM.rel q hq
      exact ⟨by rw [getElem!_pos L q.1 h1]; exact List.getElem_mem _, by rw [getElem!_pos L q.2 h2]; exact List.getElem_mem _, h3⟩
    · have := nodup_map_on (f := fun i : Nat => L[i]!) hM.fst fun x hx y hy e => by
        obtain ⟨p, hp, rfl⟩ := List.mem_map.1 hx
        obtain ⟨q, hq, rfl⟩ := List.mem_map.1 hy
        exact hinj _ _ (hM.rel p hp).1 (hM.rel q hq).1 e
      rw [List.map_map] at this ⊢
      exact this
    · have := nodup_map_on (f := fun i : Nat => L[i]!) hM.snd fun x hx y hy e => by
        obtain ⟨p, hp, rfl⟩ := List.mem_map.1 hx
        obtain ⟨q, hq, rfl⟩ := List.mem_map.1 hy
        exact hinj _ _ (hM.rel p hp).2.1 (hM.rel q hq).2.1 e
      rw [List.map_map] at this ⊢
      exact this
  · intro N hN
    have hex : ∀ x, ∃ i, x ∈ L → i < L.length ∧ L[i]! = x := fun x => by
      by_cases hx : x ∈ L
      · obtain ⟨i, hi, e⟩ := List.getElem_of_mem hx
        exact ⟨i, fun _ => ⟨hi, by rw [getElem!_pos L i hi]; exact e⟩⟩
      · exact ⟨0, fun h => absurd h hx⟩
    let ix : α → Nat := fun x => Classical.choose (hex x)
    have hix : ∀ x, x ∈ L → ix x < L.length ∧ L[ix x]! = x := fun x => Classical.choose_spec (hex x)
    have hinj' : ∀ x y, x ∈ L → y ∈ L → ix x = ix y → x = y := fun x y hx hy e => by
      rw [← (hix x hx).2, ← (hix y hy).2, e]
    have := h2 (N.map fun p => (ix p.1, ix p.2)) ⟨?_, ?_, ?_⟩
    · simpa using this
    · intro p hp
      obtain ⟨q, hq, rfl⟩ := List.mem_map.1 hp
      obtain ⟨h1, h2, h3⟩ := hN.rel q hq
      exact ⟨(hix _ h1).1, (hix _ h2).1, by rw [(hix _ h1).2, (hix _ h2).2]; exact h3⟩
    · have := nodup_map_on (f := ix) hN.fst fun x hx y hy e => by
        obtain ⟨p, hp, rfl⟩ := List.mem_map.1 hx
        obtain ⟨q, hq, rfl⟩ := List.mem_map.1 hy
        exact hinj' _ _ (hN.rel p hp).1 (hN.rel q hq).1 e
      rw [List.map_map] at this ⊢
      exact this
    · have := nodup_map_on (f := ix) hN.snd fun x hx y hy e => by
        obtain ⟨p, hp, rfl⟩ := List.mem_map.1 hx
        obtain ⟨q, hq, rfl⟩ := List.mem_map.1 hy
        exact hinj' _ _ (hN.rel p hp).2.1 (hN.rel q hq).2.1 e
      rw [List.map_map] at this ⊢
      exact this

/-- One value more: as many pairs, or one more. -/
theorem most_one_more {α : Type} {R : α → α → Prop} (htr : ∀ x y z, R x y → R y z → R x z) {A B : α → Prop} {x : α} (hAB : ∀ y, B y ↔ A y ∨ y = x) (hx : ¬ R x x) {m k : Nat}
    (h : Most (fun a b => A a ∧ A b ∧ R a b) m) (g : Most (fun a b => B a ∧ B b ∧ R a b) k) : m ≤ k ∧ k ≤ m + 1 := by
  classical
  obtain ⟨⟨M, hM, rfl⟩, h2⟩ := h
  obtain ⟨⟨N, hN, rfl⟩, g2⟩ := g
  refine ⟨g2 M ⟨fun p hp => ?_, hM.fst, hM.snd⟩, ?_⟩
  · obtain ⟨a, b, c⟩ := hM.rel p hp
    exact ⟨(hAB _).2 (.inl a), (hAB _).2 (.inl b), c⟩
  · -- what is left of N where x is in no pair
    obtain ⟨N0, hN0⟩ : ∃ N0, N0 = N.filter fun p => decide (p.1 ≠ x ∧ p.2 ≠ x) := ⟨_, rfl⟩
    have hsub : N0.Sublist N := by rw [hN0]; exact List.filter_sublist
    have hm0 : ∀ p, p ∈ N0 ↔ p ∈ N ∧ p.1 ≠ x ∧ p.2 ≠ x := fun p => by rw [hN0, List.mem_filter]; simp
    have hf0 : (N0.map (·.1)).Nodup := List.Nodup.sublist (hsub.map _) hN.fst
    have hs0 : (N0.map (·.2)).Nodup := List.Nodup.sublist (hsub.map _) hN.snd
    have hr0 : ∀ p ∈ N0, A p.1 ∧ A p.2 ∧ R p.1 p.2 := fun p hp => by
      obtain ⟨hp1, hp2, hp3⟩ := (hm0 p).1 hp
      obtain ⟨a, b, c⟩ := hN.rel p hp1
      exact ⟨((hAB _).1 a).resolve_right hp2, ((hAB _).1 b).resolve_right hp3, c⟩
    -- N is N0 and at most a pair with x first and one with x second
    have hone : ∀ (f : α × α → α), (N.map f).Nodup → (N.filter fun p => decide (f p = x)).length ≤ 1 := fun f hf => by
      have h1 : ((N.filter fun p => decide (f p = x)).map f).Nodup := List.Nodup.sublist (List.Sublist.map _ List.filter_sublist) hf
      have := le_of_nodup h1 (b := [x]) fun y hy => by
        obtain ⟨p, hp, rfl⟩ := List.mem_map.1 hy
        simpa using (List.mem_filter.1 hp).2
      simpa using this
    have hcnt : N.length ≤ N0.length + (N.filter fun p => decide (p.1 = x)).length + (N.filter fun p => decide (p.2 = x)).length := by
      rw [hN0]
      clear hN0 hm0 hsub hf0 hs0 hr0 hone g2 h2 hM hN
      induction N with
      | nil => simp
      | cons p N ih =>
        by_cases h1 : p.1 = x <;> by_cases h2 : p.2 = x <;> simp [h1, h2] <;> simp at ih <;> omega
    have h11 := hone (·.1) hN.fst
    have h12 := hone (·.2) hN.snd
    by_cases hb : (∃ p ∈ N, p.1 = x) ∧ ∃ q ∈ N, q.2 = x
    · obtain ⟨⟨p, hp, hpx⟩, q, hq, hqx⟩ := hb
      obtain ⟨pa, pb, pc⟩ := hN.rel p hp
      obtain ⟨qa, qb, qc⟩ := hN.rel q hq
      rw [hpx] at pc
      rw [hqx] at qc
      have hq1 : q.1 ≠ x := fun e => hx (e ▸ qc)
      have hp2 : p.2 ≠ x := fun e => hx (e ▸ pc)
      have inj1 : ∀ a ∈ N, ∀ b ∈ N, a.1 = b.1 → a = b := fun a ha b hb e => by
        obtain ⟨i, hi, rfl⟩ := List.getElem_of_mem ha
        obtain ⟨j, hj, rfl⟩ := List.getElem_of_mem hb
        have := (List.getElem_inj (i := i) (j := j) (h₀ := by simpa using hi) (h₁ := by simpa using hj) hN.fst).1 (by simpa using e)
        subst this; rfl
      have inj2 : ∀ a ∈ N, ∀ b ∈ N, a.2 = b.2 → a = b := fun a ha b hb e => by
        obtain ⟨i, hi, rfl⟩ := List.getElem_of_mem ha
        obtain ⟨j, hj, rfl⟩ := List.getElem_of_mem hb
        have := (List.getElem_inj (i := i) (j := j) (h₀ := by simpa using hi) (h₁ := by simpa using hj) hN.snd).1 (by simpa using e)
        subst this; rfl
      have := h2 ((q.1, p.2) :: N0) ⟨?_, ?_, ?_⟩
      · simp at this; omega
      · intro r hr
        rcases List.mem_cons.1 hr with rfl | hr
        · exact ⟨((hAB _).1 qa).resolve_right hq1, ((hAB _).1 pb).resolve_right hp2, htr _ _ _ qc pc⟩
        · exact hr0 r hr
      · rw [List.map_cons, List.nodup_cons]
        refine ⟨fun hm => ?_, hf0⟩
        obtain ⟨r, hr, e⟩ := List.mem_map.1 hm
        obtain ⟨hr1, hr2, hr3⟩ := (hm0 r).1 hr
        have := inj1 r hr1 q hq e
        exact hr3 (this ▸ hqx)
      · rw [List.map_cons, List.nodup_cons]
        refine ⟨fun hm => ?_, hs0⟩
        obtain ⟨r, hr, e⟩ := List.mem_map.1 hm
        obtain ⟨hr1, hr2, hr3⟩ := (hm0 r).1 hr
        have := inj2 r hr1 p hp e
        exact hr2 (this ▸ hpx)
    · have hle := h2 N0 ⟨hr0, hf0, hs0⟩
      have : (N.filter fun p => decide (p.1 = x)).length = 0 ∨ (N.filter fun p => decide (p.2 = x)).length = 0 := by
        rcases Classical.not_and_iff_not_or_not.1 hb with hb | hb
        · refine .inl (List.length_eq_zero_iff.2 (List.filter_eq_nil_iff.2 fun p hp => ?_))
          simp; exact fun e => hb ⟨p, hp, e⟩
        · refine .inr (List.length_eq_zero_iff.2 (List.filter_eq_nil_iff.2 fun p hp => ?_))
          simp; exact fun e => hb ⟨p, hp, e⟩
      omega

end Go.Proofs.Ytcmllllbmgcnlaa.Ch

namespace Go.Proofs.Ytcmllllbmgcnlaa.Ch
open Go.RowKit Go.Proofs.Ytcmllllbmgcnlaa.C Go.Proofs.Ytcmllllbmgcnlaa.ChT Go.Proofs.YtcmllllbmgcnlaaW.PrintWords Go.Proofs.YtcmllllbmgcnlaaW.PrintLast Go.Proofs.YtcmllllbmgcnlaaW.PrintMore
set_option linter.unusedVariables false
set_option linter.unusedSimpArgs false

theorem R_sl {w : World} {base : Nat} {ok : Nat → Prop} {v : Value} {r : List Int} (h : Kd.R (Kd.int .i64) 3 w base ok v r) : ∃ A c, v = .slice A r.length c ∧ Sl w A c r := by
  obtain ⟨A, c, e, hl, hc⟩ := Kd.R_reads h
  exact ⟨A, c, e, hc, hl⟩

/-- The cells of a row of numbers that is read. -/
theorem sl_cells {w : World} {A : Option Addr} {c : Nat} {l : List Int} (h : Sl w A c l) (i : Nat) (hi : i < l.length) : ∃ ad, A = some ad ∧ w.cell? (ad.add i) = some (.int .i64 l[i]) := by
  obtain ⟨ad, c, e, hl, hK, hc⟩ := Kd.C_get h.C (0 : Int) (i : Int) (by omega) (by omega)
  have eg : l.getD ((i : Int)).toNat 0 = l[i] := by simp [hi]
  rw [eg] at hK
  have hce : c = [.int .i64 l[i]] := hK
  subst hce
  have := hc 0 _ rfl
  exact ⟨ad, e, by simpa [Kd.int, Kd.scalar] using this⟩

/-! ### the reference's unlike -/
def unlR : List Int → List Int → List Int
  | acc, [] => acc
  | acc, x :: l => if x = 0 ∨ x ∈ acc then unlR acc l else unlR (acc ++ [x]) l

theorem unlR_spec : ∀ (l acc : List Int), acc.Nodup → (unlR acc l).Nodup ∧ (∀ x, x ∈ unlR acc l ↔ x ∈ acc ∨ (x ∈ l ∧ x ≠ 0)) ∧ (unlR acc l).length ≤ acc.length + l.length
  | [], acc, h => ⟨h, fun x => by simp [unlR], by simp [unlR]⟩
  | y :: l, acc, h => by
    unfold unlR
    by_cases hy : y = 0 ∨ y ∈ acc
    · rw [if_pos hy]
      obtain ⟨h1, h2, h3⟩ := unlR_spec l acc h
      refine ⟨h1, fun x => ?_, by simp only [List.length_cons]; omega⟩
      rw [h2, List.mem_cons]
      constructor
      · rintro (h4 | h4)
        · exact .inl h4
        · exact .inr ⟨.inr h4.1, h4.2⟩
      · rintro (h4 | ⟨rfl | h4, h5⟩)
        · exact .inl h4
        · exact .inl (hy.resolve_left h5)
        · exact .inr ⟨h4, h5⟩
    · rw [if_neg hy]
      have hy1 : y ≠ 0 := fun e => hy (.inl e)
      have hy2 : y ∉ acc := fun e => hy (.inr e)
      obtain ⟨h1, h2, h3⟩ := unlR_spec l (acc ++ [y]) (by
        rw [List.nodup_append]
        exact ⟨h, by simp, fun a ha b hb e => by rw [List.mem_singleton] at hb; subst hb; subst e; exact hy2 ha⟩)
      refine ⟨h1, fun x => ?_, by simp only [List.length_cons, List.length_append, List.length_nil] at h3 ⊢; omega⟩
      rw [h2, List.mem_cons, List.mem_append, List.mem_singleton]
      constructor
      · rintro ((h4 | rfl) | h4)
        · exact .inl h4
        · exact .inr ⟨.inl rfl, hy1⟩
        · exact .inr ⟨.inr h4.1, h4.2⟩
      · rintro (h4 | ⟨rfl | h4, h5⟩)
        · exact .inl (.inl h4)
        · exact .inl (.inr rfl)
        · exact .inr ⟨h4, h5⟩

theorem unl_loop (l : List Int) (hn : l.length ≤ 4096) : ∀ (rest pre acc : List Int) (k : Nat), l = pre ++ rest → acc.length ≤ pre.length → l.length + rest.length + 1 < k →
    vestryref06_unlike.l0 k l acc (pre.length : Int) = some (unlR acc rest)
  | [], pre, acc, 0, _, _, hk => by omega
  | [], pre, acc, k + 1, hp, _, hk => by
    have e : pre.length = l.length := by rw [hp]; simp
    simp only [vestryref06_unlike.l0]
    rw [if_neg (by omega)]
    rfl
  | x :: rest, pre, acc, 0, _, _, hk => by omega
  | x :: rest, pre, acc, k + 1, hp, ha, hk => by
    have e : l.length = pre.length + rest.length + 1 := by rw [hp]; simp; omega
    have hp' : l = (pre ++ [x]) ++ rest := by rw [hp]; simp
    have ew : wrap64 ((pre.length : Int) + 1) = ((pre ++ [x]).length : Int) := by rw [wrap_nat _ (by omega)]; simp
    have erd : rd l (pre.length : Int) = x := rd_at hp
    simp only [List.length_cons] at hk
    simp only [vestryref06_unlike.l0]
    rw [if_pos (by omega), if_pos (by omega), erd, ew, has_is k acc x (by omega) (by omega)]
    simp only [Option.bind_some, decide_eq_true_eq, unlR]
    by_cases h0 : x = 0
    · rw [if_pos h0, if_pos (.inl h0)]
      exact unl_loop l hn rest (pre ++ [x]) acc k hp' (by simp; omega) (by omega)
    · rw [if_neg h0]
      by_cases h1 : x ∈ acc
      · rw [if_pos h1, if_pos (.inr h1)]
        exact unl_loop l hn rest (pre ++ [x]) acc k hp' (by simp; omega) (by omega)
      · rw [if_neg h1, if_pos (by omega), if_neg (by simp [h0, h1])]
        exact unl_loop l hn rest (pre ++ [x]) (acc ++ [x]) k hp' (by simp; omega) (by omega)

theorem runlike_calls (A : Option Addr) (c : Nat) (l : List Int) (w : World) (h : Sl w A c l) (hn : l.length ≤ 4096) :
    Calls Try.prog 71 #[.slice A l.length c] w fun e w' => ∃ v, e = .returned v ∧ Kd.R (Kd.int .i64) 3 w' w.heap.size (fun _ => True) v (unlR [] l) ∧ Below w.heap.size w w' :=
  vestryref06_unlike.calls (2 * l.length + 2) _ _ l _ w h.C h.le (unl_loop l hn l [] [] _ rfl (Nat.le_refl _) (by omega))

/-! ### wrong -/
def Bad (width : Int) (l : List Int) : Prop := ∃ s ∈ l, s < 0 ∨ shr .i64 s width ≠ 0
instance (width : Int) (l : List Int) : Decidable (Bad width l) := by unfold Bad; infer_instance
def wrongS (width : Int) (l : List Int) : Int := if 256 < l.length then 3 else if Bad width l then 1 else 0

theorem wrong_loop (width : Int) (hw : 0 ≤ width) (l : List Int) (hn : l.length ≤ 256) : ∀ (rest pre : List Int) (k : Nat), l = pre ++ rest → rest.length < k →
    chain_wrong.l0 k width l (l.length : Int) (pre.length : Int) = some (if Bad width rest then 1 else 0)
  | [], pre, 0, _, hk => by omega
  | [], pre, k + 1, hp, hk => by
    have e : pre.length = l.length := by rw [hp]; simp
    simp only [chain_wrong.l0]
    rw [if_neg (by omega), if_neg (by simp [Bad])]
  | x :: rest, pre, 0, _, hk => by omega
  | x :: rest, pre, k + 1, hp, hk => by
    have e : l.length = pre.length + rest.length + 1 := by rw [hp]; simp; omega
    have hp' : l = (pre ++ [x]) ++ rest := by rw [hp]; simp
    have ew : wrap64 ((pre.length : Int) + 1) = ((pre ++ [x]).length : Int) := by rw [wrap_nat _ (by omega)]; simp
    have erd : rd l (pre.length : Int) = x := rd_at hp
    simp only [List.length_cons] at hk
    have hb : Bad width (x :: rest) ↔ (x < 0 ∨ shr .i64 x width ≠ 0) ∨ Bad width rest := by simp [Bad]
    simp only [chain_wrong.l0]
    rw [if_pos (by omega), if_pos (by omega), if_pos (by omega), erd, ew, if_pos hw]
    by_cases h0 : x < 0
    · rw [if_pos h0, if_pos (hb.2 (.inl (.inl h0)))]
    · rw [if_neg h0]
      by_cases h1 : shr .i64 x width = 0
      · rw [if_pos h1, wrong_loop width hw l hn rest (pre ++ [x]) k hp' (by omega)]
        by_cases h2 : Bad width rest
        · rw [if_pos h2, if_pos (hb.2 (.inr h2))]
        · rw [if_neg h2, if_neg fun h => ?_]
          rcases hb.1 h with (h3 | h3) | h3
          · exact h0 h3
          · exact h3 h1
          · exact h2 h3
      · rw [if_neg h1, if_pos (hb.2 (.inl (.inr h1)))]

theorem wrong_calls (width : Int) (hw : 0 ≤ width) (A : Option Addr) (c : Nat) (l : List Int) (w : World) (h : Sl w A c l) :
    Calls Try.prog 69 #[.int .i64 width, .slice A l.length c] w fun e w' => e = .returned (.int .i64 (wrongS width l)) ∧ Drawn0 w w' := by
  refine chain_wrong.calls (l.length + 1) _ _ _ l _ w h.C h.le ?_
  unfold chain_wrong.f wrongS
  by_cases h1 : 256 < l.length
  · rw [if_pos (by omega), if_pos h1]
  · rw [if_neg (by omega), if_neg h1]
    exact wrong_loop width hw l (by omega) l [] _ rfl (by omega)

/-! ### Least, told by what it is -/
def Un (l : List Int) (x : Int) : Prop := x ∈ l ∧ x ≠ 0
def Rl (l : List Int) (x y : Int) : Prop := Un l x ∧ Un l y ∧ (y ≠ x ∧ Go.bits .and .i64 x y = x)
/-- n orders are enough, and no fewer are. -/
def LeastIs (l : List Int) (n : Nat) : Prop := ∃ (u : List Int) (m : Nat), u.Nodup ∧ (∀ x, x ∈ u ↔ Un l x) ∧ Most (Rl l) m ∧ n = max (u.length - m) 1
theorem LeastIs.eq {l : List Int} {n k : Nat} (h : LeastIs l n) (g : LeastIs l k) : n = k := by
  obtain ⟨u, m, h1, h2, h3, rfl⟩ := h
  obtain ⟨v, p, g1, g2, g3, rfl⟩ := g
  rw [h3.eq g3, eq_of_nodup h1 g1 fun x => (h2 x).trans (g2 x).symm]

/-- From places in a row to LeastIs. -/
theorem least_of {l u : List Int} {m : Nat} (hu : u.Nodup) (hm : ∀ x, x ∈ u ↔ Un l x) (h : Most (fun s k => s < u.length ∧ k < u.length ∧ (k ≠ s ∧ Go.bits .and .i64 u[s]! u[k]! = u[s]!)) m) : LeastIs l (max (u.length - m) 1) := by
  refine ⟨u, m, hu, hm, ?_, rfl⟩
  have h1 : Most (fun s k => s < u.length ∧ k < u.length ∧ (u[k]! ≠ u[s]! ∧ Go.bits .and .i64 u[s]! u[k]! = u[s]!)) m := by
    have : (fun s k => s < u.length ∧ k < u.length ∧ (u[k]! ≠ u[s]! ∧ Go.bits .and .i64 u[s]! u[k]! = u[s]!)) = fun s k => s < u.length ∧ k < u.length ∧ (k ≠ s ∧ Go.bits .and .i64 u[s]! u[k]! = u[s]!) := by
      funext s k
      apply propext
      constructor
      · rintro ⟨a, b, c, d⟩
        exact ⟨a, b, fun e => c (by rw [e]), d⟩
      · rintro ⟨a, b, c, d⟩
        refine ⟨a, b, fun e => c ?_, d⟩
        rw [getElem!_pos u k b, getElem!_pos u s a] at e
        exact (List.getElem_inj hu).1 e
    rw [this]; exact h
  have h2 := most_values hu (R := fun x y => y ≠ x ∧ Go.bits .and .i64 x y = x) h1
  have : Rl l = fun x y => x ∈ u ∧ y ∈ u ∧ (y ≠ x ∧ Go.bits .and .i64 x y = x) := by
    funext x y
    unfold Rl
    rw [hm, hm]
  rw [this]; exact h2

end Go.Proofs.Ytcmllllbmgcnlaa.Ch

namespace Go.Proofs.Ytcmllllbmgcnlaa.Ch
set_option linter.unusedVariables false
set_option linter.unusedSimpArgs false

/-- A place among n, or none. -/
def Pl (n : Nat) (v : Int) : Prop := v = -1 ∨ ∃ k : Nat, k < n ∧ v = k
theorem Pl.neg {n : Nat} {v : Int} (h : Pl n v) (hn : v < 0) : v = -1 := by
  rcases h with h | ⟨k, _, h⟩ <;> omega
theorem Pl.pos {n : Nat} {v : Int} (h : Pl n v) (hn : 0 ≤ v) : ∃ k : Nat, k < n ∧ v = k := by
  rcases h with h | h
  · omega
  · exact h
/-- f, but for one place. -/
def put (f : Nat → Int) (i : Nat) (v : Int) : Nat → Int := fun j => if j = i then v else f j
theorem put_same (f : Nat → Int) (i : Nat) (v : Int) : put f i v i = v := if_pos rfl
theorem put_ne (f : Nat → Int) {i j : Nat} (v : Int) (h : j ≠ i) : put f i v j = f j := if_neg h

section
variable {n : Nat} {E : Nat → Nat → Prop}

/-- Pairs, told from both sides; cur is a second that is not told of by fr. -/
structure Mt (n : Nat) (E : Nat → Nat → Prop) (cur : Int) (tt fr : Nat → Int) : Prop where
  rt : ∀ s, s < n → Pl n (tt s)
  rf : ∀ k, k < n → Pl n (fr k)
  tf : ∀ s, s < n → ∀ k : Nat, tt s = k → fr k = s ∧ E s k ∧ (k : Int) ≠ cur
  ft : ∀ k : Nat, k < n → (k : Int) ≠ cur → ∀ s : Nat, fr k = s → tt s = k

/-- Why the firsts ahead of i that have no second can have none. -/
structure Dead (n : Nat) (E : Nat → Nat → Prop) (tt fr : Nat → Int) (D : Nat → Prop) (i : Nat) : Prop where
  dead : ∀ k, D k → k < n ∧ ∃ s : Nat, fr k = s ∧ ∀ k', k' < n → E s k' → D k'
  fail : ∀ s, s < i → s < n → tt s = -1 → ∀ k, k < n → E s k → D k
  later : ∀ s, i ≤ s → s < n → tt s = -1

def NextO (n : Nat) (E : Nat → Nat → Prop) (tt fr : Nat → Int) (i : Nat) : Prop := Mt n E (-1) tt fr ∧ ∃ D, Dead n E tt fr D i

theorem nextO_start (n : Nat) (E : Nat → Nat → Prop) : NextO n E (fun _ => -1) (fun _ => -1) 0 :=
  ⟨⟨fun _ _ => .inl rfl, fun _ _ => .inl rfl, fun s hs k h => by omega, fun k hk _ s h => by omega⟩, fun _ => False, fun _ h => h.elim, fun s hs => absurd hs (Nat.not_lt_zero _), fun _ _ _ => rfl⟩

theorem nextO_fin {tt fr : Nat → Int} (h : NextO n E tt fr n) : ∃ F D, Fin n E fr F D := by
  obtain ⟨hm, D, hd⟩ := h
  refine ⟨(List.range n).filter fun s => decide (tt s < 0), D, ?_⟩
  have hmem : ∀ s, s ∈ (List.range n).filter (fun s => decide (tt s < 0)) ↔ s < n ∧ tt s < 0 := fun s => by simp [List.mem_filter]
  refine ⟨?_, ?_, List.Nodup.sublist List.filter_sublist List.nodup_range, ?_, ?_, ?_⟩
  · intro k k' hk hk' h0 e
    obtain ⟨s, hs, e1⟩ := (hm.rf k hk).pos h0
    have h1 := hm.ft k hk (by omega) s e1
    have h2 := hm.ft k' hk' (by omega) s (by omega)
    omega
  · intro k hk h0
    obtain ⟨s, hs, e1⟩ := (hm.rf k hk).pos h0
    have h1 := hm.ft k hk (by omega) s e1
    rw [e1]
    exact ⟨hs, (hm.tf s hs k h1).2.1⟩
  · intro s
    rw [hmem]
    constructor
    · rintro ⟨hs, h⟩
      refine ⟨hs, fun k hk e => ?_⟩
      have := hm.ft k hk (by omega) s e
      omega
    · rintro ⟨hs, h⟩
      refine ⟨hs, Int.not_le.1 fun h0 => ?_⟩
      obtain ⟨k, hk, e⟩ := (hm.rt s hs).pos h0
      exact h k hk (hm.tf s hs k e).1
  · intro k hk
    obtain ⟨h1, s, h2, h3⟩ := hd.dead k hk
    exact ⟨h1, by omega, fun k' hk' he => h3 k' hk' (by rw [h2] at he; exact he)⟩
  · intro s hs k hk he
    obtain ⟨hs1, hs2⟩ := (hmem s).1 hs
    exact hd.fail s hs1 hs1 ((hm.rt s hs1).neg hs2) k hk he

/-- The search from i: by tells who reached; dep is how deep. -/
structure Tree (n : Nat) (E : Nat → Nat → Prop) (tt : Nat → Int) (i : Nat) (by_ : Nat → Int) (dep : Nat → Nat) : Prop where
  rng : ∀ k, k < n → Pl n (by_ k)
  up : ∀ k, k < n → ∀ s : Nat, by_ k = s → E s k ∧ (s = i ∨ ∃ q : Nat, q < n ∧ tt s = q ∧ 0 ≤ by_ q ∧ dep q < dep k)

/-- Reached. -/
def Rch (tt : Nat → Int) (i : Nat) (by_ : Nat → Int) (s : Nat) : Prop := s = i ∨ ∃ q : Nat, tt s = q ∧ 0 ≤ by_ q

/-- The queue; s0 is looked at, as far as k0. -/
structure Bfs (n : Nat) (E : Nat → Nat → Prop) (tt fr : Nat → Int) (i : Nat) (by_ : Nat → Int) (todo : List Nat) (cur : Option (Nat × Nat)) : Prop where
  tree : ∃ dep, Tree n E tt i by_ dep
  held : ∀ k, k < n → 0 ≤ by_ k → 0 ≤ fr k
  que : ∀ s ∈ todo, s < n ∧ Rch tt i by_ s
  curr : ∀ s k0, cur = some (s, k0) → s < n ∧ Rch tt i by_ s ∧ ∀ k, k < k0 → k < n → E s k → 0 ≤ by_ k
  proc : ∀ s, s < n → Rch tt i by_ s → s ∈ todo ∨ (∃ k0, cur = some (s, k0)) ∨ ∀ k, k < n → E s k → 0 ≤ by_ k

theorem bfs_start {tt fr : Nat → Int} {i : Nat} (hi : i < n) : Bfs n E tt fr i (fun _ => -1) [i] none :=
  ⟨⟨fun _ => 0, fun _ _ => .inl rfl, fun k hk s h => by omega⟩, fun k hk h => by omega, fun s hs => by
      rw [List.mem_singleton] at hs; subst hs; exact ⟨hi, .inl rfl⟩, fun s k0 h => by (cases h), fun s hs h => by
      rcases h with h | ⟨q, _, h⟩
      · exact .inl (List.mem_singleton.2 h)
      · exact absurd (show (0 : Int) ≤ -1 from h) (by decide)⟩

theorem bfs_pop {tt fr by_ : Nat → Int} {i s : Nat} {todo : List Nat} (h : Bfs n E tt fr i by_ (s :: todo) none) : Bfs n E tt fr i by_ todo (some (s, 0)) :=
  ⟨h.tree, h.held, fun x hx => h.que x (List.mem_cons_of_mem _ hx), fun x k0 e => by
      obtain ⟨rfl, rfl⟩ : s = x ∧ 0 = k0 := by injection e with e; injection e with a b; exact ⟨a, b⟩
      exact ⟨(h.que _ (List.mem_cons_self ..)).1, (h.que _ (List.mem_cons_self ..)).2, fun k hk => absurd hk (Nat.not_lt_zero _)⟩, fun x hx hr => by
      rcases h.proc x hx hr with h1 | ⟨_, h1⟩ | h1
      · rcases List.mem_cons.1 h1 with h1 | h1
        · exact .inr (.inl ⟨0, by rw [h1]⟩)
        · exact .inl h1
      · cases h1
      · exact .inr (.inr h1)⟩

theorem bfs_skip {tt fr by_ : Nat → Int} {i s k : Nat} {todo : List Nat} (h : Bfs n E tt fr i by_ todo (some (s, k))) (hk : k < n → E s k → 0 ≤ by_ k) : Bfs n E tt fr i by_ todo (some (s, k + 1)) :=
  ⟨h.tree, h.held, h.que, fun x k0 e => by
      obtain ⟨rfl, rfl⟩ : s = x ∧ k + 1 = k0 := by injection e with e; injection e with a b; exact ⟨a, b⟩
      obtain ⟨h1, h2, h3⟩ := h.curr s k rfl
      refine ⟨h1, h2, fun k' hk' hn he => ?_⟩
      rcases Nat.lt_or_eq_of_le (Nat.le_of_lt_succ hk') with h4 | h4
      · exact h3 k' h4 hn he
      · subst h4; exact hk hn he, fun x hx hr => by
      rcases h.proc x hx hr with h1 | ⟨k0, h1⟩ | h1
      · exact .inl h1
      · refine .inr (.inl ⟨k + 1, ?_⟩)
        injection h1 with h1; injection h1 with a b; rw [a]
      · exact .inr (.inr h1)⟩

theorem bfs_done {tt fr by_ : Nat → Int} {i s : Nat} {todo : List Nat} (h : Bfs n E tt fr i by_ todo (some (s, n))) : Bfs n E tt fr i by_ todo none :=
  ⟨h.tree, h.held, h.que, fun x k0 e => (by cases e), fun x hx hr => by
      rcases h.proc x hx hr with h1 | ⟨k0, h1⟩ | h1
      · exact .inl h1
      · obtain ⟨rfl, rfl⟩ : s = x ∧ n = k0 := by injection h1 with e; injection e with a b; exact ⟨a, b⟩
        exact .inr (.inr fun k hk he => (h.curr s n rfl).2.2 k hk hk he)
      · exact .inr (.inr h1)⟩

theorem tree_put {tt by_ : Nat → Int} {i s k : Nat} {dep : Nat → Nat} (ht : Tree n E tt i by_ dep) (hs : s < n) (hrt : ∀ q : Nat, tt s = q → q < n) (hr : Rch tt i by_ s) (hk : k < n) (he : E s k) (hb : by_ k < 0) :
    ∃ dep, Tree n E tt i (put by_ k s) dep := by
  have hold : ∀ j, j < n → 0 ≤ by_ j → j ≠ k := fun j hj h e => by subst e; omega
  refine ⟨fun j => if j = k then dep (tt s).toNat + 1 else dep j, fun j hj => ?_, fun j hj x hx => ?_⟩
  · unfold put
    by_cases e : j = k
    · rw [if_pos e]; exact .inr ⟨s, hs, rfl⟩
    · rw [if_neg e]; exact ht.rng j hj
  · by_cases e : j = k
    · subst e
      rw [put_same] at hx
      have hxs : x = s := by omega
      subst hxs
      refine ⟨he, ?_⟩
      rcases hr with h | ⟨q, h1, h2⟩
      · exact .inl h
      · have hqk : q ≠ j := fun e => by subst e; omega
        refine .inr ⟨q, hrt q h1, h1, by rw [put_ne _ _ hqk]; exact h2, ?_⟩
        simp only [if_neg hqk, if_pos, h1]
        simp
    · rw [put_ne _ _ e] at hx
      obtain ⟨h1, h2⟩ := ht.up j hj x hx
      refine ⟨h1, ?_⟩
      rcases h2 with h2 | ⟨q, q1, q2, q3, q4⟩
      · exact .inl h2
      · have hqk := hold q q1 q3
        exact .inr ⟨q, q1, q2, by rw [put_ne _ _ hqk]; exact q3, by simp only [if_neg hqk, if_neg e]; exact q4⟩

theorem bfs_push {tt fr by_ : Nat → Int} {i s k f : Nat} {todo : List Nat} (hm : Mt n E (-1) tt fr) (h : Bfs n E tt fr i by_ todo (some (s, k))) (hk : k < n) (he : E s k) (hb : by_ k < 0) (hf : fr k = f) (hfn : f < n) :
    Bfs n E tt fr i (put by_ k s) (todo ++ [f]) (some (s, k + 1)) := by
  obtain ⟨hs, hr, hprev⟩ := h.curr s k rfl
  obtain ⟨dep, ht⟩ := h.tree
  have hge : ∀ j, 0 ≤ by_ j → 0 ≤ put by_ k s j := fun j hj => by
    unfold put; by_cases e : j = k
    · rw [if_pos e]; omega
    · rw [if_neg e]; exact hj
  have hmono : ∀ x, Rch tt i by_ x → Rch tt i (put by_ k s) x := fun x hx => by
    rcases hx with h | ⟨q, h1, h2⟩
    · exact .inl h
    · exact .inr ⟨q, h1, hge q h2⟩
  have htf : tt f = k := hm.ft k hk (by omega) f hf
  refine ⟨tree_put ht hs (fun q hq => ?_) hr hk he hb, fun j hj h0 => ?_, fun x hx => ?_, fun x k0 e => ?_, fun x hx hr' => ?_⟩
  · obtain ⟨q', h1, h2⟩ := (hm.rt s hs).pos (by omega)
    omega
  · by_cases e : j = k
    · subst e; omega
    · rw [put_ne _ _ e] at h0; exact h.held j hj h0
  · rcases List.mem_append.1 hx with hx | hx
    · exact ⟨(h.que x hx).1, hmono x (h.que x hx).2⟩
    · rw [List.mem_singleton] at hx
      subst hx
      exact ⟨hfn, .inr ⟨k, htf, by rw [put_same]; omega⟩⟩
  · obtain ⟨rfl, rfl⟩ : s = x ∧ k + 1 = k0 := by injection e with e; injection e with a b; exact ⟨a, b⟩
    refine ⟨hs, hmono s hr, fun j hj hn hej => ?_⟩
    rcases Nat.lt_or_eq_of_le (Nat.le_of_lt_succ hj) with h4 | h4
    · exact hge j (hprev j h4 hn hej)
    · subst h4; rw [put_same]; omega
  · have : Rch tt i by_ x ∨ x = f := by
      rcases hr' with h1 | ⟨q, h1, h2⟩
      · exact .inl (.inl h1)
      · by_cases e : q = k
        · subst e
          right
          have := (hm.tf x hx q h1).1
          omega
        · rw [put_ne _ _ e] at h2; exact .inl (.inr ⟨q, h1, h2⟩)
    rcases this with h1 | h1
    · rcases h.proc x hx h1 with h2 | ⟨k0, h2⟩ | h2
      · exact .inl (List.mem_append_left _ h2)
      · refine .inr (.inl ⟨k + 1, ?_⟩)
        injection h2 with h2; injection h2 with a b; rw [a]
      · exact .inr (.inr fun j hj hej => hge j (h2 j hj hej))
    · exact .inl (List.mem_append_right _ (List.mem_singleton.2 h1))

/-- The queue is empty: i finds no second, now or ever. -/
theorem bfs_fail {tt fr by_ : Nat → Int} {i : Nat} (hi : i < n) (hm : Mt n E (-1) tt fr) {D : Nat → Prop} (hd : Dead n E tt fr D i) (h : Bfs n E tt fr i by_ [] none) : NextO n E tt fr (i + 1) := by
  refine ⟨hm, fun k => D k ∨ (k < n ∧ 0 ≤ by_ k), fun k hk => ?_, fun s hs hn h0 k hk he => ?_, fun s hs hn => hd.later s (by omega) hn⟩
  · rcases hk with hk | ⟨hk, h0⟩
    · obtain ⟨h1, s, h2, h3⟩ := hd.dead k hk
      exact ⟨h1, s, h2, fun k' hk' he => .inl (h3 k' hk' he)⟩
    · obtain ⟨s, hs, e⟩ := (hm.rf k hk).pos (h.held k hk h0)
      refine ⟨hk, s, e, fun k' hk' he => .inr ⟨hk', ?_⟩⟩
      have hto := hm.ft k hk (by omega) s e
      rcases h.proc s hs (.inr ⟨k, hto, h0⟩) with h1 | ⟨_, h1⟩ | h1
      · cases h1
      · cases h1
      · exact h1 k' hk' he
  · by_cases e : s = i
    · subst e
      rcases h.proc s hn (.inl rfl) with h1 | ⟨_, h1⟩ | h1
      · cases h1
      · cases h1
      · exact .inr ⟨hk, h1 k hk he⟩
    · exact .inl (hd.fail s (by omega) hn h0 k hk he)

/-- Each gives way tt the one that reached it. -/
structure Aug (n : Nat) (E : Nat → Nat → Prop) (tt fr : Nat → Int) (D : Nat → Prop) (i : Nat) (by_ : Nat → Int) (dep : Nat → Nat) (cur : Int) (tt' fr' : Nat → Int) : Prop where
  mt : Mt n E cur tt' fr'
  pl : Pl n cur
  at_ : ∀ k : Nat, cur = k → ¬ D k ∧ 0 ≤ by_ k ∧ ∀ s, s < n → (s = i ∨ ∃ q : Nat, tt s = q ∧ 0 ≤ by_ q ∧ dep q < dep k) → tt' s = tt s
  dsame : ∀ k, D k → fr' k = fr k
  grow : ∀ s, s < n → 0 ≤ tt s → 0 ≤ tt' s
  only : ∀ s, s < n → 0 ≤ tt' s → 0 ≤ tt s ∨ s = i
  fin : cur = -1 → 0 ≤ tt' i

theorem aug_start {tt fr by_ : Nat → Int} {i s k : Nat} {todo : List Nat} (hm : Mt n E (-1) tt fr) {D : Nat → Prop} (hd : Dead n E tt fr D i) (h : Bfs n E tt fr i by_ todo (some (s, k))) (hk : k < n) (he : E s k) (hb : by_ k < 0) (hf : fr k < 0) :
    ∃ dep, Tree n E tt i (put by_ k s) dep ∧ Aug n E tt fr D i (put by_ k s) dep k tt fr := by
  obtain ⟨hs, hr, hprev⟩ := h.curr s k rfl
  obtain ⟨dep, ht⟩ := h.tree
  obtain ⟨dep', ht'⟩ := tree_put ht hs (fun q hq => by obtain ⟨q', h1, h2⟩ := (hm.rt s hs).pos (by omega); omega) hr hk he hb
  refine ⟨dep', ht', ⟨hm.rt, hm.rf, fun s' hs' x hx => ⟨(hm.tf s' hs' x hx).1, (hm.tf s' hs' x hx).2.1, fun e => ?_⟩, fun x hx hne s' e => hm.ft x hx (by omega) s' e⟩, .inr ⟨k, hk, rfl⟩, fun k' e => ?_, fun _ _ => rfl, fun _ _ h => h, fun _ _ h => .inl h, fun e => by omega⟩
  · have := (hm.tf s' hs' x hx).1
    have hxk : x = k := by omega
    subst hxk; omega
  · have : k' = k := by omega
    subst this
    refine ⟨fun hD => ?_, by rw [put_same]; omega, fun _ _ _ => rfl⟩
    obtain ⟨_, s', e', _⟩ := hd.dead k' hD
    omega

theorem aug_step {tt fr by_ tt' fr' : Nat → Int} {i : Nat} {dep : Nat → Nat} {D : Nat → Prop} {k : Nat} (hi : i < n) (hti : tt i = -1) (hm : Mt n E (-1) tt fr) (hd : Dead n E tt fr D i) (ht : Tree n E tt i by_ dep) (h : Aug n E tt fr D i by_ dep k tt' fr') :
    ∃ s : Nat, s < n ∧ by_ k = s ∧ Pl n (tt' s) ∧ Aug n E tt fr D i by_ dep (tt' s) (put tt' s k) (put fr' k s) ∧ ∀ q : Nat, tt' s = q → dep q < dep k := by
  obtain ⟨hnD, hb, hsame⟩ := h.at_ k rfl
  have hk : k < n := by
    obtain ⟨k', h1, h2⟩ := h.pl.pos (by omega)
    omega
  obtain ⟨s, hs, e⟩ := (ht.rng k hk).pos hb
  obtain ⟨he, hup⟩ := ht.up k hk s e
  have hts : tt' s = tt s := hsame s hs (by
    rcases hup with h1 | ⟨q, h1, h2, h3, h4⟩
    · exact .inl h1
    · exact .inr ⟨q, h2, h3, h4⟩)
  refine ⟨s, hs, e, h.mt.rt s hs, ⟨⟨fun s' hs' => ?_, fun k' hk' => ?_, fun s' hs' x hx => ?_, fun x hx hne s' hx' => ?_⟩, h.mt.rt s hs, fun q hq => ?_, fun k' hk' => ?_, fun s' hs' h0 => ?_, fun s' hs' h0 => ?_, fun h1 => ?_⟩, fun q hq => ?_⟩
  · by_cases e' : s' = s
    · rw [e', put_same]; exact .inr ⟨k, hk, rfl⟩
    · rw [put_ne _ _ e']; exact h.mt.rt s' hs'
  · by_cases e' : k' = k
    · rw [e', put_same]; exact .inr ⟨s, hs, rfl⟩
    · rw [put_ne _ _ e']; exact h.mt.rf k' hk'
  · by_cases e' : s' = s
    · subst e'
      rw [put_same] at hx
      have hxk : x = k := by omega
      subst hxk
      refine ⟨put_same .., he, fun hc => ?_⟩
      exact (h.mt.tf s' hs x hc.symm).2.2 rfl
    · rw [put_ne _ _ e'] at hx
      obtain ⟨h1, h2, h3⟩ := h.mt.tf s' hs' x hx
      have hxk : x ≠ k := fun hc => h3 (by rw [hc])
      refine ⟨by rw [put_ne _ _ hxk]; exact h1, h2, fun hc => ?_⟩
      have := (h.mt.tf s hs x hc.symm).1
      omega
  · by_cases e' : x = k
    · subst e'
      rw [put_same] at hx'
      have : s' = s := by omega
      subst this
      exact put_same ..
    · rw [put_ne _ _ e'] at hx'
      have h1 := h.mt.ft x hx (by omega) s' hx'
      have : s' ≠ s := fun hc => by subst hc; omega
      rw [put_ne _ _ this]; exact h1
  · -- where it goes on
    rcases hup with h1 | ⟨q', h1, h2, h3, h4⟩
    · subst h1; omega
    · have hqq : q = q' := by omega
      subst hqq
      refine ⟨fun hD => ?_, h3, fun s' hs' hor => ?_⟩
      · obtain ⟨_, s'', e'', h5⟩ := hd.dead q hD
        have h6 := (hm.tf s hs q h2).1
        have : s'' = s := by omega
        subst this
        exact hnD (h5 k hk he)
      · have hne : s' ≠ s := fun hc => by
          subst hc
          rcases hor with h6 | ⟨q2, h6, h7, h8⟩
          · subst h6; omega
          · have : q2 = q := by omega
            subst this; omega
        rw [put_ne _ _ hne]
        refine hsame s' hs' ?_
        rcases hor with h6 | ⟨q2, h6, h7, h8⟩
        · exact .inl h6
        · exact .inr ⟨q2, h6, h7, by omega⟩
  · have : k' ≠ k := fun hc => by subst hc; exact hnD hk'
    rw [put_ne _ _ this]; exact h.dsame k' hk'
  · by_cases e' : s' = s
    · rw [e', put_same]; omega
    · rw [put_ne _ _ e']; exact h.grow s' hs' h0
  · by_cases e' : s' = s
    · subst e'
      rcases hup with h1 | ⟨q', _, h2, _⟩
      · exact .inr h1
      · exact .inl (by omega)
    · rw [put_ne _ _ e'] at h0; exact h.only s' hs' h0
  · rcases hup with h2 | ⟨q', _, h2, _⟩
    · rw [h2, put_same]; omega
    · omega
  · rcases hup with h1 | ⟨q', h1, h2, h3, h4⟩
    · subst h1; omega
    · have : q = q' := by omega
      subst this; exact h4

theorem aug_done {tt fr by_ tt' fr' : Nat → Int} {i : Nat} {dep : Nat → Nat} {D : Nat → Prop} (hi : i < n) (hd : Dead n E tt fr D i) (hm : Mt n E (-1) tt fr) (h : Aug n E tt fr D i by_ dep (-1) tt' fr') : NextO n E tt' fr' (i + 1) := by
  refine ⟨h.mt, D, fun k hk => ?_, fun s hs hn h0 k hk he => ?_, fun s hs hn => ?_⟩
  · obtain ⟨h1, s, h2, h3⟩ := hd.dead k hk
    exact ⟨h1, s, by rw [h.dsame k hk]; exact h2, h3⟩
  · have hsi : s ≠ i := fun e => by subst e; have := h.fin rfl; omega
    refine hd.fail s (by omega) hn ?_ k hk he
    refine (hm.rt s hn).neg (Int.not_le.1 fun hc => ?_)
    have := h.grow s hn hc
    omega
  · refine (h.mt.rt s hn).neg (Int.not_le.1 fun hc => ?_)
    rcases h.only s hn hc with h1 | h1
    · have := hd.later s (by omega) hn; omega
    · omega

end

/-- How many are not reached. -/
def unr (n : Nat) (by_ : Nat → Int) : Nat := ((List.range n).filter fun k => decide (by_ k < 0)).length
theorem unr_le (n : Nat) (by_ : Nat → Int) : unr n by_ ≤ n := by
  have := List.length_filter_le (fun k => decide (by_ k < 0)) (List.range n)
  simpa [unr] using this
theorem unr_put {n : Nat} {by_ : Nat → Int} {k : Nat} {s : Nat} (hk : k < n) (hb : by_ k < 0) : unr n (put by_ k s) + 1 = unr n by_ := by
  have h1 : (k :: (List.range n).filter fun j => decide (put by_ k s j < 0)).Nodup := by
    rw [List.nodup_cons]
    refine ⟨fun h => ?_, List.Nodup.sublist List.filter_sublist List.nodup_range⟩
    have := (List.mem_filter.1 h).2
    rw [put_same] at this
    simp at this; omega
  have h2 : ((List.range n).filter fun j => decide (by_ j < 0)).Nodup := List.Nodup.sublist List.filter_sublist List.nodup_range
  have := eq_of_nodup h1 h2 fun x => by
    rw [List.mem_cons, List.mem_filter, List.mem_filter]
    simp only [List.mem_range, decide_eq_true_eq]
    by_cases e : x = k
    · subst e; simp [hk, hb]
    · rw [put_ne _ _ e]; simp [e]
  simpa [unr] using this

end Go.Proofs.Ytcmllllbmgcnlaa.Ch

namespace Go.Proofs.Ytcmllllbmgcnlaa.Ch
set_option linter.unusedVariables false
set_option linter.unusedSimpArgs false

def putB (f : Nat → Bool) (i : Nat) : Nat → Bool := fun j => if j = i then true else f j
theorem putB_same (f : Nat → Bool) (i : Nat) : putB f i i = true := if_pos rfl
theorem putB_ne (f : Nat → Bool) {i j : Nat} (h : j ≠ i) : putB f i j = f j := if_neg h
theorem putB_of {f : Nat → Bool} {i j : Nat} (h : f j = true) : putB f i j = true := by
  unfold putB; by_cases e : j = i
  · rw [if_pos e]
  · rw [if_neg e]; exact h
theorem putB_not {f : Nat → Bool} {i j : Nat} (h : ¬ putB f i j = true) : ¬ f j = true ∧ j ≠ i := ⟨fun e => h (putB_of e), fun e => h (by rw [e]; exact putB_same ..)⟩

section
variable {n : Nat} {E : Nat → Nat → Prop}

/-- Seconds that are held, and whose holders can only go to such. -/
def Clo (n : Nat) (E : Nat → Nat → Prop) (pr : Nat → Int) (D : Nat → Prop) : Prop := ∀ k, D k → k < n ∧ ∃ s : Nat, pr k = s ∧ ∀ k', k' < n → E s k' → D k'

structure Pre (n : Nat) (E : Nat → Nat → Prop) (pr : Nat → Int) (sn : Nat → Bool) (i : Nat) : Prop where
  rng : ∀ k, k < n → Pl n (pr k)
  inj : ∀ k k', k < n → k' < n → ¬ sn k = true → ¬ sn k' = true → 0 ≤ pr k → pr k = pr k' → k = k'
  edge : ∀ k, k < n → ∀ s : Nat, pr k = s → E s k
  new : ∀ k, k < n → ¬ sn k = true → pr k ≠ i
  lt : i < n

structure TryNo (n : Nat) (E : Nat → Nat → Prop) (pr : Nat → Int) (sn : Nat → Bool) (i : Nat) (sn' : Nat → Bool) : Prop where
  ge : ∀ k, sn k = true → sn' k = true
  all : ∀ k, k < n → E i k → sn' k = true
  new : ∀ k, k < n → sn' k = true → ¬ sn k = true → ∃ s : Nat, s < n ∧ pr k = s ∧ ∀ k', k' < n → E s k' → sn' k' = true

structure TryYes (n : Nat) (E : Nat → Nat → Prop) (pr : Nat → Int) (sn : Nat → Bool) (i : Nat) (pr' : Nat → Int) : Prop where
  keep : ∀ k, sn k = true → pr' k = pr k
  rng : ∀ k, k < n → Pl n (pr' k)
  inj : ∀ k k', k < n → k' < n → ¬ sn k = true → ¬ sn k' = true → 0 ≤ pr' k → pr' k = pr' k' → k = k'
  edge : ∀ k, k < n → ∀ s : Nat, pr' k = s → E s k
  img : ∀ k, k < n → ¬ sn k = true → ∀ s : Nat, pr' k = s → s = i ∨ ∃ k2, k2 < n ∧ ¬ sn k2 = true ∧ pr k2 = s
  img2 : ∀ s : Nat, (s = i ∨ ∃ k2, k2 < n ∧ ¬ sn k2 = true ∧ pr k2 = s) → ∃ k, k < n ∧ ¬ sn k = true ∧ pr' k = s
  dead : ∀ D, Clo n E pr D → ∀ k, D k → pr' k = pr k
  alive : ∀ D, Clo n E pr D → ¬ ∀ k, k < n → E i k → D k

structure Mid (n : Nat) (E : Nat → Nat → Prop) (pr : Nat → Int) (sn : Nat → Bool) (i : Nat) (k0 : Nat) (sn1 : Nat → Bool) : Prop where
  ge : ∀ k, sn k = true → sn1 k = true
  all : ∀ k, k < k0 → k < n → E i k → sn1 k = true
  new : ∀ k, k < n → sn1 k = true → ¬ sn k = true → ∃ s : Nat, s < n ∧ pr k = s ∧ ∀ k', k' < n → E s k' → sn1 k' = true

theorem mid_start (pr : Nat → Int) (sn : Nat → Bool) (i : Nat) : Mid n E pr sn i 0 sn := ⟨fun _ h => h, fun k h => absurd h (Nat.not_lt_zero _), fun k _ h h' => absurd h h'⟩
theorem mid_skip {pr : Nat → Int} {sn sn1 : Nat → Bool} {i k : Nat} (h : Mid n E pr sn i k sn1) (hk : k < n → E i k → sn1 k = true) : Mid n E pr sn i (k + 1) sn1 :=
  ⟨h.ge, fun j hj hn he => by
    rcases Nat.lt_or_eq_of_le (Nat.le_of_lt_succ hj) with h4 | h4
    · exact h.all j h4 hn he
    · subst h4; exact hk hn he, h.new⟩
theorem mid_end {pr : Nat → Int} {sn sn1 : Nat → Bool} {i : Nat} (h : Mid n E pr sn i n sn1) : TryNo n E pr sn i sn1 := ⟨h.ge, fun k hk he => h.all k hk hk he, h.new⟩

theorem mid_free {pr : Nat → Int} {sn sn1 : Nat → Bool} {i k : Nat} (hp : Pre n E pr sn i) (h : Mid n E pr sn i k sn1) (hk : k < n) (he : E i k) (hs : ¬ sn1 k = true) (hf : pr k < 0) : TryYes n E pr sn i (put pr k i) := by
  have hsn : ¬ sn k = true := fun e => hs (h.ge k e)
  refine ⟨fun j hj => ?_, fun j hj => ?_, fun j j' hj hj' h1 h2 h0 e => ?_, fun j hj s e => ?_, fun j hj h1 s e => ?_, fun s hs' => ?_, fun D hD j hj => ?_, fun D hD hall => ?_⟩
  · exact put_ne _ _ fun e => by subst e; exact hsn hj
  · unfold put; by_cases e : j = k
    · rw [if_pos e]; exact .inr ⟨i, hp.lt, rfl⟩
    · rw [if_neg e]; exact hp.rng j hj
  · by_cases e1 : j = k <;> by_cases e2 : j' = k
    · rw [e1, e2]
    · rw [e1, put_same, put_ne _ _ e2] at e; exact absurd e.symm (hp.new j' hj' h2)
    · rw [e2, put_same, put_ne _ _ e1] at e; exact absurd e (hp.new j hj h1)
    · rw [put_ne _ _ e1] at e h0; rw [put_ne _ _ e2] at e
      exact hp.inj j j' hj hj' h1 h2 h0 e
  · by_cases e1 : j = k
    · subst e1; rw [put_same] at e
      have : s = i := by omega
      subst this; exact he
    · rw [put_ne _ _ e1] at e; exact hp.edge j hj s e
  · by_cases e1 : j = k
    · subst e1; rw [put_same] at e; exact .inl (by omega)
    · rw [put_ne _ _ e1] at e; exact .inr ⟨j, hj, h1, e⟩
  · rcases hs' with rfl | ⟨k2, h1, h2, h3⟩
    · exact ⟨k, hk, hsn, put_same ..⟩
    · exact ⟨k2, h1, h2, by rw [put_ne _ _ fun e => by subst e; omega]; exact h3⟩
  · exact put_ne _ _ fun e => by
      subst e
      obtain ⟨_, s, h1, _⟩ := hD j hj
      omega
  · obtain ⟨_, s, h1, _⟩ := hD k (hall k hk he)
    omega

theorem mid_pre {pr : Nat → Int} {sn sn1 : Nat → Bool} {i k s : Nat} (hp : Pre n E pr sn i) (h : Mid n E pr sn i k sn1) (hk : k < n) (hs : ¬ sn1 k = true) (hsn : s < n) (hf : pr k = s) : Pre n E pr (putB sn1 k) s := by
  have hsk : ¬ sn k = true := fun e => hs (h.ge k e)
  have hun : ∀ j, ¬ putB sn1 k j = true → ¬ sn j = true ∧ j ≠ k := fun j hj => ⟨fun e => (putB_not hj).1 (h.ge j e), (putB_not hj).2⟩
  refine ⟨hp.rng, fun j j' hj hj' h1 h2 => hp.inj j j' hj hj' (hun j h1).1 (hun j' h2).1, hp.edge, fun j hj h1 e => ?_, hsn⟩
  exact (hun j h1).2 (hp.inj j k hj hk (hun j h1).1 hsk (by omega) (by omega))

theorem mid_fail {pr : Nat → Int} {sn sn1 sn2 : Nat → Bool} {i k s : Nat} (h : Mid n E pr sn i k sn1) (hk : k < n) (hsn : s < n) (hf : pr k = s) (g : TryNo n E pr (putB sn1 k) s sn2) : Mid n E pr sn i (k + 1) sn2 := by
  refine ⟨fun j hj => g.ge j (putB_of (h.ge j hj)), fun j hj hn he => ?_, fun j hj h1 h2 => ?_⟩
  · rcases Nat.lt_or_eq_of_le (Nat.le_of_lt_succ hj) with h4 | h4
    · exact g.ge j (putB_of (h.all j h4 hn he))
    · subst h4; exact g.ge j (putB_same ..)
  · by_cases h3 : putB sn1 k j = true
    · by_cases e : j = k
      · subst e
        exact ⟨s, hsn, hf, fun k' hk' he => g.all k' hk' he⟩
      · rw [putB_ne _ e] at h3
        obtain ⟨s', h4, h5, h6⟩ := h.new j hj h3 h2
        exact ⟨s', h4, h5, fun k' hk' he => g.ge k' (putB_of (h6 k' hk' he))⟩
    · exact g.new j hj h1 h3

theorem mid_yes {pr pr1 : Nat → Int} {sn sn1 : Nat → Bool} {i k s : Nat} (hp : Pre n E pr sn i) (h : Mid n E pr sn i k sn1) (hk : k < n) (he : E i k) (hs : ¬ sn1 k = true) (hsn : s < n) (hf : pr k = s) (g : TryYes n E pr (putB sn1 k) s pr1) : TryYes n E pr sn i (put pr1 k i) := by
  have hsk : ¬ sn k = true := fun e => hs (h.ge k e)
  have hkD : ∀ D, Clo n E pr D → ¬ D k := fun D hD hk' => by
    obtain ⟨_, s', h1, h2⟩ := hD k hk'
    have : s' = s := by omega
    subst this
    exact g.alive D hD h2
  have himg : ∀ j, j < n → ¬ sn j = true → j ≠ k → ∀ v : Nat, pr1 j = v → ∃ k2, k2 < n ∧ ¬ sn k2 = true ∧ pr k2 = v ∧ (sn1 j = true → k2 = j) ∧ (¬ sn1 j = true → k2 = k ∨ ¬ sn1 k2 = true) := fun j hj h1 e1 v e => by
    by_cases h3 : sn1 j = true
    · exact ⟨j, hj, h1, by rw [← g.keep j (putB_of h3)]; exact e, fun _ => rfl, fun h => absurd h3 h⟩
    · have h4 : ¬ putB sn1 k j = true := by rw [putB_ne _ e1]; exact h3
      rcases g.img j hj h4 v e with h5 | ⟨k2, h5, h6, h7⟩
      · exact ⟨k, hk, hsk, by omega, fun h => absurd h h3, fun _ => .inl rfl⟩
      · exact ⟨k2, h5, fun e => h6 (putB_of (h.ge k2 e)), h7, fun h => absurd h h3, fun _ => .inr (putB_not h6).1⟩
  refine ⟨fun j hj => ?_, fun j hj => ?_, fun j j' hj hj' h1 h2 h0 e => ?_, fun j hj v e => ?_, fun j hj h1 v e => ?_, fun v hv => ?_, fun D hD j hj => ?_, fun D hD hall => ?_⟩
  · rw [put_ne _ _ fun e => by subst e; exact hsk hj]
    exact g.keep j (putB_of (h.ge j hj))
  · unfold put; by_cases e : j = k
    · rw [if_pos e]; exact .inr ⟨i, hp.lt, rfl⟩
    · rw [if_neg e]; exact g.rng j hj
  · by_cases e1 : j = k <;> by_cases e2 : j' = k
    · rw [e1, e2]
    · rw [e1, put_same, put_ne _ _ e2] at e
      obtain ⟨k2, h3, h4, h5, _⟩ := himg j' hj' h2 e2 i e.symm
      exact absurd h5 (hp.new k2 h3 h4)
    · rw [e2, put_same, put_ne _ _ e1] at e
      obtain ⟨k2, h3, h4, h5, _⟩ := himg j hj h1 e1 i e
      exact absurd h5 (hp.new k2 h3 h4)
    · rw [put_ne _ _ e1] at e h0; rw [put_ne _ _ e2] at e
      obtain ⟨v, hv, ev⟩ := (g.rng j hj).pos h0
      obtain ⟨a, a1, a2, a3, a4, a5⟩ := himg j hj h1 e1 v ev
      obtain ⟨b, b1, b2, b3, b4, b5⟩ := himg j' hj' h2 e2 v (by omega)
      have hab : a = b := hp.inj a b a1 b1 a2 b2 (by omega) (by omega)
      by_cases h3 : sn1 j = true <;> by_cases h4 : sn1 j' = true
      · rw [← a4 h3, ← b4 h4]; exact hab
      · have := a4 h3
        rcases b5 h4 with h5 | h5
        · exfalso; apply e1; rw [← this, hab]; exact h5
        · exact absurd h3 (by rw [← this, hab]; exact h5)
      · have := b4 h4
        rcases a5 h3 with h5 | h5
        · exfalso; apply e2; rw [← this, ← hab]; exact h5
        · exact absurd h4 (by rw [← this, ← hab]; exact h5)
      · exact g.inj j j' hj hj' (by rw [putB_ne _ e1]; exact h3) (by rw [putB_ne _ e2]; exact h4) h0 e
  · by_cases e1 : j = k
    · subst e1; rw [put_same] at e
      have : v = i := by omega
      subst this; exact he
    · rw [put_ne _ _ e1] at e; exact g.edge j hj v e
  · by_cases e1 : j = k
    · subst e1; rw [put_same] at e; exact .inl (by omega)
    · rw [put_ne _ _ e1] at e
      obtain ⟨k2, h3, h4, h5, _⟩ := himg j hj h1 e1 v e
      exact .inr ⟨k2, h3, h4, h5⟩
  · rcases hv with rfl | ⟨k2, h1, h2, h3⟩
    · exact ⟨k, hk, hsk, put_same ..⟩
    · by_cases h4 : putB sn1 k k2 = true
      · by_cases e : k2 = k
        · subst e
          obtain ⟨k3, h5, h6, h7⟩ := g.img2 v (.inl (by omega))
          exact ⟨k3, h5, fun e => h6 (putB_of (h.ge k3 e)), by rw [put_ne _ _ (putB_not h6).2]; exact h7⟩
        · exact ⟨k2, h1, h2, by rw [put_ne _ _ e, g.keep k2 h4]; exact h3⟩
      · obtain ⟨k3, h5, h6, h7⟩ := g.img2 v (.inr ⟨k2, h1, h4, h3⟩)
        exact ⟨k3, h5, fun e => h6 (putB_of (h.ge k3 e)), by rw [put_ne _ _ (putB_not h6).2]; exact h7⟩
  · have : j ≠ k := fun e => hkD D hD (e ▸ hj)
    rw [put_ne _ _ this]; exact g.dead D hD j hj
  · exact hkD D hD (hall k hk he)

/-- At the head of Least's loop. -/
structure RefO (n : Nat) (E : Nat → Nat → Prop) (pr : Nat → Int) (i : Nat) (F : List Nat) : Prop where
  rng : ∀ k, k < n → Pl n (pr k)
  inj : ∀ k k', k < n → k' < n → 0 ≤ pr k → pr k = pr k' → k = k'
  edge : ∀ k, k < n → ∀ s : Nat, pr k = s → E s k
  nodup : F.Nodup
  mem : ∀ s, s ∈ F ↔ s < i ∧ ∀ k, k < n → pr k ≠ (s : Int)
  lt : ∀ k, k < n → pr k < (i : Int)
  dead : ∃ D, Clo n E pr D ∧ ∀ s ∈ F, ∀ k, k < n → E s k → D k

theorem refO_start : RefO n E (fun _ => -1) 0 [] :=
  ⟨fun _ _ => .inl rfl, fun k k' _ _ h => absurd h (by decide), fun k hk s h => by
      have : (-1 : Int) = s := h
      omega, List.nodup_nil, fun s => ⟨fun h => (by cases h), fun h => absurd h.1 (Nat.not_lt_zero _)⟩, fun _ _ => (by show (-1 : Int) < 0; decide), fun _ => False, fun _ h => h.elim, fun _ h => (by cases h)⟩

theorem refO_pre {pr : Nat → Int} {i : Nat} {F : List Nat} (h : RefO n E pr i F) (hi : i < n) : Pre n E pr (fun _ => false) i :=
  ⟨h.rng, fun k k' hk hk' _ _ => h.inj k k' hk hk', h.edge, fun k hk _ e => by have := h.lt k hk; omega, hi⟩

theorem refO_yes {pr pr' : Nat → Int} {i : Nat} {F : List Nat} (h : RefO n E pr i F) (hi : i < n) (g : TryYes n E pr (fun _ => false) i pr') : RefO n E pr' (i + 1) F := by
  have hu : ∀ k : Nat, ¬ ((fun _ : Nat => false) k = true) := fun _ e => by cases e
  refine ⟨g.rng, fun k k' hk hk' => g.inj k k' hk hk' (hu k) (hu k'), g.edge, h.nodup, fun s => ?_, fun k hk => ?_, ?_⟩
  · rw [h.mem]
    constructor
    · rintro ⟨h1, h2⟩
      refine ⟨by omega, fun k hk e => ?_⟩
      rcases g.img k hk (hu k) s e with h3 | ⟨k2, h3, _, h4⟩
      · omega
      · exact h2 k2 h3 h4
    · rintro ⟨h1, h2⟩
      have hne : s ≠ i := fun e => by
        obtain ⟨k, hk, _, e2⟩ := g.img2 s (.inl e)
        exact h2 k hk e2
      refine ⟨by omega, fun k hk e => ?_⟩
      obtain ⟨k2, h3, _, h4⟩ := g.img2 s (.inr ⟨k, hk, hu k, e⟩)
      exact h2 k2 h3 h4
  · rcases g.rng k hk with e | ⟨s, hs, e⟩
    · omega
    · rcases g.img k hk (hu k) s e with h3 | ⟨k2, h3, _, h4⟩
      · omega
      · have := h.lt k2 h3; omega
  · obtain ⟨D, h1, h2⟩ := h.dead
    refine ⟨D, fun k hk => ?_, h2⟩
    obtain ⟨h3, s, h4, h5⟩ := h1 k hk
    exact ⟨h3, s, by rw [g.dead D h1 k hk]; exact h4, h5⟩

theorem refO_no {pr : Nat → Int} {sn' : Nat → Bool} {i : Nat} {F : List Nat} (h : RefO n E pr i F) (hi : i < n) (g : TryNo n E pr (fun _ => false) i sn') : RefO n E pr (i + 1) (F ++ [i]) := by
  have hu : ∀ k : Nat, ¬ ((fun _ : Nat => false) k = true) := fun _ e => by cases e
  have hiF : ∀ k, k < n → pr k ≠ i := fun k hk e => by have := h.lt k hk; omega
  refine ⟨h.rng, h.inj, h.edge, ?_, fun s => ?_, fun k hk => by have := h.lt k hk; omega, ?_⟩
  · rw [List.nodup_append]
    refine ⟨h.nodup, by simp, fun a ha b hb e => ?_⟩
    rw [List.mem_singleton] at hb
    have := ((h.mem a).1 ha).1
    omega
  · rw [List.mem_append, h.mem, List.mem_singleton]
    constructor
    · rintro (⟨h1, h2⟩ | rfl)
      · exact ⟨by omega, h2⟩
      · exact ⟨by omega, hiF⟩
    · rintro ⟨h1, h2⟩
      by_cases e : s = i
      · exact .inr e
      · exact .inl ⟨by omega, h2⟩
  · obtain ⟨D, h1, h2⟩ := h.dead
    refine ⟨fun k => D k ∨ (k < n ∧ sn' k = true), fun k hk => ?_, fun s hs k hk he => ?_⟩
    · rcases hk with hk | ⟨hk, hk'⟩
      · obtain ⟨h3, s, h4, h5⟩ := h1 k hk
        exact ⟨h3, s, h4, fun k' hk' he => .inl (h5 k' hk' he)⟩
      · obtain ⟨s, h3, h4, h5⟩ := g.new k hk hk' (hu k)
        exact ⟨hk, s, h4, fun k' hk'' he => .inr ⟨hk'', h5 k' hk'' he⟩⟩
    · rcases List.mem_append.1 hs with hs | hs
      · exact .inl (h2 s hs k hk he)
      · rw [List.mem_singleton] at hs
        subst hs
        exact .inr ⟨hk, g.all k hk he⟩

theorem refO_fin {pr : Nat → Int} {F : List Nat} (h : RefO n E pr n F) : ∃ D, Fin n E pr F D := by
  obtain ⟨D, h1, h2⟩ := h.dead
  refine ⟨D, h.inj, fun k hk h0 => ?_, h.nodup, h.mem, fun k hk => ?_, h2⟩
  · obtain ⟨s, hs, e⟩ := (h.rng k hk).pos h0
    rw [e]; exact ⟨hs, h.edge k hk s e⟩
  · obtain ⟨h3, s, h4, h5⟩ := h1 k hk
    exact ⟨h3, by omega, fun k' hk' he => h5 k' hk' (by rw [h4] at he; exact he)⟩
end

/-- How many are not seen. -/
def uns (n : Nat) (sn : Nat → Bool) : Nat := ((List.range n).filter fun k => !sn k).length
theorem uns_le (n : Nat) (sn : Nat → Bool) : uns n sn ≤ n := by
  have := List.length_filter_le (fun k => !sn k) (List.range n)
  simpa [uns] using this
theorem uns_put {n : Nat} {sn : Nat → Bool} {k : Nat} (hk : k < n) (hb : ¬ sn k = true) : uns n (putB sn k) + 1 = uns n sn := by
  have hb' : sn k = false := by simpa using hb
  have h1 : (k :: (List.range n).filter fun j => !putB sn k j).Nodup := by
    rw [List.nodup_cons]
    refine ⟨fun h => ?_, List.Nodup.sublist List.filter_sublist List.nodup_range⟩
    have := (List.mem_filter.1 h).2
    rw [putB_same] at this
    cases this
  have h2 : ((List.range n).filter fun j => !sn j).Nodup := List.Nodup.sublist List.filter_sublist List.nodup_range
  have := eq_of_nodup h1 h2 fun x => by
    rw [List.mem_cons, List.mem_filter, List.mem_filter]
    simp only [List.mem_range]
    by_cases e : x = k
    · subst e; simp [hk, hb']
    · rw [putB_ne _ e]; simp [e]
  simpa [uns] using this
theorem uns_mono {n : Nat} {sn sn' : Nat → Bool} (h : ∀ k, sn k = true → sn' k = true) : uns n sn' ≤ uns n sn := by
  refine le_of_nodup (List.Nodup.sublist List.filter_sublist List.nodup_range) fun x hx => ?_
  obtain ⟨h1, h2⟩ := List.mem_filter.1 hx
  refine List.mem_filter.2 ⟨h1, ?_⟩
  cases h3 : sn x
  · rfl
  · rw [h x h3] at h2; exact h2

end Go.Proofs.Ytcmllllbmgcnlaa.Ch

namespace Go.Proofs.Ytcmllllbmgcnlaa.Ch
open Go.RowKit Go.Deep Go.Proofs.Ytcmllllbmgcnlaa.C Go.Proofs.YtcmllllbmgcnlaaW.PrintWords Go.Proofs.YtcmllllbmgcnlaaW.PrintLast Go.Proofs.YtcmllllbmgcnlaaW.PrintMore
set_option linter.unusedVariables false
set_option linter.unusedSimpArgs false

/-- Whether k follows s. -/
def Ed (lv : Nat → Int) (s k : Nat) : Prop := k ≠ s ∧ Go.bits .and .i64 (lv s) (lv k) = lv s

/-- A matcher in memory. -/
structure MW (n : Nat) (A : Option Addr) (c ba oa b bp bs : Nat) (lv : Nat → Int) (w : World) (pr : Nat → Int) (sn : Nat → Bool) : Prop where
  c0 : w.cell? ⟨b, 0, none⟩ = some (.slice A n c)
  c1 : w.cell? ⟨b, 1, none⟩ = some (.slice (some ⟨bp, 0, none⟩) n n)
  c2 : w.cell? ⟨b, 2, none⟩ = some (.slice (some ⟨bs, 0, none⟩) n n)
  rp : w.rowIs bp 3 n (fun k => .int .i64 (pr k))
  rs : w.rowIs bs 4 n (fun k => .bool (sn k))
  la : ∀ k, k < n → A = some ⟨ba, oa, none⟩ ∧ w.cell? ⟨ba, oa + k, none⟩ = some (.int .i64 (lv k))
  nps : bp ≠ bs
  nb : b ≠ bp ∧ b ≠ bs
  na : 0 < n → ba ≠ bp ∧ ba ≠ bs

/-- Only two blocks have turned. -/
structure Two2 (bp bs : Nat) (w w' : World) : Prop where
  os : w'.os = w.os
  tape : w'.tape = w.tape
  output : w'.output = w.output
  size : w'.heap.size = w.heap.size
  block : ∀ k, k ≠ bp → k ≠ bs → w'.heap[k]? = w.heap[k]?

namespace Two2
variable {bp bs : Nat} {w w' w'' : World}
theorem refl (bp bs : Nat) (w : World) : Two2 bp bs w w := ⟨rfl, rfl, rfl, rfl, fun _ _ _ => rfl⟩
theorem trans (h : Two2 bp bs w w') (k : Two2 bp bs w' w'') : Two2 bp bs w w'' := ⟨k.os.trans h.os, k.tape.trans h.tape, k.output.trans h.output, k.size.trans h.size, fun j h1 h2 => (k.block j h1 h2).trans (h.block j h1 h2)⟩
theorem drew (h : Two2 bp bs w w') : Two2 bp bs w w'.drew := ⟨h.os, h.tape, h.output, h.size, h.block⟩
theorem drewN (h : Two2 bp bs w w') (m : Nat) : Two2 bp bs w (w'.drewN m) := ⟨h.os, h.tape, h.output, h.size, h.block⟩
theorem set (h : Two2 bp bs w w') {a : Addr} (ha : a.block = bp ∨ a.block = bs) (v : Value) : Two2 bp bs w (w'.setCell a v) :=
  ⟨h.os, h.tape, h.output, by simp [h.size], fun k h1 h2 => (blk_setCell_other _ _ _ _ (by rcases ha with ha | ha <;> omega)).trans (h.block k h1 h2)⟩
end Two2

section
variable {n : Nat} {A : Option Addr} {c ba oa b bp bs : Nat} {lv : Nat → Int} {w w' : World} {pr : Nat → Int} {sn : Nat → Bool}
theorem MW.drewN (h : MW n A c ba oa b bp bs lv w pr sn) (m : Nat) : MW n A c ba oa b bp bs lv (w.drewN m) pr sn := ⟨h.c0, h.c1, h.c2, h.rp, h.rs, h.la, h.nps, h.nb, h.na⟩
theorem MW.drew (h : MW n A c ba oa b bp bs lv w pr sn) : MW n A c ba oa b bp bs lv w.drew pr sn := ⟨h.c0, h.c1, h.c2, h.rp, h.rs, h.la, h.nps, h.nb, h.na⟩
theorem cell_ne (w : World) {a a' : Addr} (v : Value) (h : a.block ≠ a'.block) : (w.setCell a' v).cell? a = w.cell? a := World.cell?_of_block (blk_setCell_other _ _ _ _ h)
theorem MW.see (h : MW n A c ba oa b bp bs lv w pr sn) (k : Nat) : MW n A c ba oa b bp bs lv (w.setCell ⟨bs, k, none⟩ (.bool true)) pr (putB sn k) :=
  ⟨by rw [cell_ne _ _ h.nb.2]; exact h.c0, by rw [cell_ne _ _ h.nb.2]; exact h.c1, by rw [cell_ne _ _ h.nb.2]; exact h.c2, h.rp.setOther h.nps _,
    (h.rs.set k _).congr (fun j _ => by unfold putB; by_cases e : j = k <;> simp [e]), fun j hj => ⟨(h.la j hj).1, by rw [cell_ne _ _ (h.na (by omega)).2]; exact (h.la j hj).2⟩, h.nps, h.nb, h.na⟩
theorem MW.give (h : MW n A c ba oa b bp bs lv w pr sn) (k : Nat) (i : Nat) : MW n A c ba oa b bp bs lv (w.setCell ⟨bp, k, none⟩ (.int .i64 i)) (put pr k i) sn :=
  ⟨by rw [cell_ne _ _ h.nb.1]; exact h.c0, by rw [cell_ne _ _ h.nb.1]; exact h.c1, by rw [cell_ne _ _ h.nb.1]; exact h.c2, (h.rp.set k _).congr (fun j _ => by unfold put; by_cases e : j = k <;> simp [e]),
    h.rs.setOther h.nps.symm _, fun j hj => ⟨(h.la j hj).1, by rw [cell_ne _ _ (h.na (by omega)).1]; exact (h.la j hj).2⟩, h.nps, h.nb, h.na⟩
end

/-- What try leaves. -/
def TryR (n : Nat) (A : Option Addr) (c ba oa b bp bs : Nat) (lv : Nat → Int) (w : World) (pr : Nat → Int) (sn : Nat → Bool) (i : Nat) (e : Ending) (w' : World) : Prop :=
  ∃ res pr' sn', e = .returned (.bool res) ∧ MW n A c ba oa b bp bs lv w' pr' sn' ∧ Two2 bp bs w w' ∧ (res = false → pr' = pr ∧ TryNo n (Ed lv) pr sn i sn') ∧ (res = true → TryYes n (Ed lv) pr sn i pr')

set_option maxHeartbeats 4000000 in
set_option maxRecDepth 100000 in
theorem try_calls (n : Nat) (A : Option Addr) (c ba oa b bp bs : Nat) (lv : Nat → Int) (hn : n ≤ 4096) : ∀ (u : Nat) (w : World) (pr : Nat → Int) (sn : Nat → Bool) (i : Nat), uns n sn < u → MW n A c ba oa b bp bs lv w pr sn → Pre n (Ed lv) pr sn i →
    Calls Try.prog 72 #[.pointer (some ⟨b, 0, none⟩), .int .i64 i] w (TryR n A c ba oa b bp bs lv w pr sn i) := by
  intro u
  induction u with
  | zero => intro w pr sn i h; omega
  | succ u ih =>
  intro w pr sn i hu hm hp
  have IH := Aside0.mk ih
  have HP := Aside0.mk hp
  have hi : i < n := hp.lt
  clear ih hp
  have H0 : Aside0 (MW n A c ba oa b bp bs lv w pr sn) := ⟨hm⟩
  clear hm
  have HU := Aside0.mk hu
  clear hu
  go_enter Try.func72, Try.ntmps72
  go_wp2_with fail
  go_loopg [5] n (fun gk v5 wr => ∃ (k : Nat) (sn1 : Nat → Bool), v5 = .int .i64 (k : Int) ∧ Aside0 (k + gk = n) ∧ Aside0 (MW n A c ba oa b bp bs lv wr pr sn1) ∧ Aside0 (Mid n (Ed lv) pr sn i k sn1) ∧ Aside0 (Two2 bp bs w wr))
  case atStart => exact ⟨0, sn, rfl, ⟨by omega⟩, H0, ⟨mid_start pr sn i⟩, ⟨Two2.refl _ _ _⟩⟩
  case round =>
    obtain ⟨k, sn1, rfl, HI, HM, HD, HT⟩ := hrel
    have h0 := HM.out.c0
    by_cases hk : k < n
    · have hkd : decide (k < n) = true := decide_eq_true hk
      have hki : (k : Int) < (n : Int) := by omega
      have hii : (i : Int) < (n : Int) := by omega
      have h1 := HM.out.c1
      have h2 := HM.out.c2
      obtain ⟨rfl, hli⟩ := HM.out.la i hi
      have hlk := (HM.out.la k hk).2
      have hpk := HM.out.rp.cell hk
      have hsk := HM.out.rs.cell hk
      have hfs := HM.out.rs.frozen k
      have hfp := HM.out.rp.frozen k
      obtain ⟨x, hx⟩ : ∃ x, x = lv i := ⟨_, rfl⟩
      obtain ⟨y, hy⟩ : ∃ y, y = lv k := ⟨_, rfl⟩
      rw [← hx] at hli
      rw [← hy] at hlk
      have HXY := Aside0.mk (And.intro hx hy)
      clear hx hy
      by_cases hkeq : k = i
      · have e1 : ((k : Int) == (i : Int)) = true := beq_iff_eq.2 (by omega)
        go_wp2_with fail
        go_quiet (fail)
        go_wp2
        obtain ⟨g2, hg2⟩ : ∃ g2, g2 = gk - 1 := ⟨_, rfl⟩
        go_roundg g2
        case measure => have := HI.out; omega
        case rel => exact ⟨k + 1, sn1, by go_num, ⟨by have := HI.out; omega⟩, by first | exact ⟨HM.out⟩ | exact ⟨HM.out.drew⟩ | exact ⟨HM.out.drewN _⟩, ⟨mid_skip HD.out fun _ he => absurd hkeq he.1⟩, by first | exact ⟨HT.out⟩ | exact ⟨HT.out.drew⟩ | exact ⟨HT.out.drewN _⟩⟩
      · have e1 : ((k : Int) == (i : Int)) = false := beq_eq_false_iff_ne.2 (by omega)
        by_cases hE : Go.bits .and .i64 x y = x
        · have e2 : (Go.bits .and .i64 x y != x) = false := by rw [hE]; simp
          have HEd : Aside0 (Ed lv i k) := ⟨⟨hkeq, by rw [← HXY.out.1, ← HXY.out.2]; exact hE⟩⟩
          clear hE
          by_cases hS : sn1 k = true
          · rw [hS] at hsk
            go_wp2_with fail
            go_quiet (fail)
            go_wp2
            obtain ⟨g2, hg2⟩ : ∃ g2, g2 = gk - 1 := ⟨_, rfl⟩
            go_roundg g2
            case measure => have := HI.out; omega
            case rel => exact ⟨k + 1, sn1, by go_num, ⟨by have := HI.out; omega⟩, by first | exact ⟨HM.out⟩ | exact ⟨HM.out.drew⟩ | exact ⟨HM.out.drewN _⟩, ⟨mid_skip HD.out fun _ he => hS⟩, by first | exact ⟨HT.out⟩ | exact ⟨HT.out.drew⟩ | exact ⟨HT.out.drewN _⟩⟩
          · have hS' : sn1 k = false := by simpa using hS
            rw [hS'] at hsk
            have HS : Aside0 (¬ sn1 k = true) := ⟨hS⟩
            have HM1 : Aside0 (∀ m, MW n (some ⟨ba, oa, none⟩) c ba oa b bp bs lv ((wr.drewN m).setCell ⟨bs, k, none⟩ (.bool true)) pr (putB sn1 k)) := ⟨fun m => (HM.out.drewN m).see k⟩
            have k0 : ∀ m, ((wr.drewN m).setCell ⟨bs, k, none⟩ (.bool true)).cell? ⟨b, 0, none⟩ = some (.slice (some ⟨ba, oa, none⟩) n c) := fun m => (HM1.out m).c0
            have k1 : ∀ m, ((wr.drewN m).setCell ⟨bs, k, none⟩ (.bool true)).cell? ⟨b, 1, none⟩ = some (.slice (some ⟨bp, 0, none⟩) n n) := fun m => (HM1.out m).c1
            have k2 : ∀ m, ((wr.drewN m).setCell ⟨bs, k, none⟩ (.bool true)).cell? ⟨bp, k, none⟩ = some (.int .i64 (pr k)) := fun m => (HM1.out m).rp.cell hk
            have k3 : ∀ m, ((wr.drewN m).setCell ⟨bs, k, none⟩ (.bool true)).frozen? ⟨bp, k, none⟩ = false := fun m => (HM1.out m).rp.frozen k
            have HHK := Aside0.mk hk
            by_cases hP : pr k < 0
            · have hPd : decide (pr k < 0) = true := decide_eq_true hP
              clear hkeq hS hS'
              go_wp2_with fail
              go_quiet (fail)
              go_wp2
              go_ret
              exact ⟨true, put pr k i, putB sn1 k, rfl, (HM1.out _).give k i, ((HT.out.drewN _).set (.inr rfl) _).set (.inl rfl) _, fun h => (by cases h), fun _ => mid_free HP.out HD.out HHK.out HEd.out HS.out hP⟩
            · have hPd : decide (pr k < 0) = false := decide_eq_false hP
              obtain ⟨s, hsn, hse⟩ := (HP.out.rng k hk).pos (by omega)
              have HC : Aside0 (∀ m, Calls Try.prog 72 #[.pointer (some ⟨b, 0, none⟩), .int .i64 (pr k)] ((wr.drewN m).setCell ⟨bs, k, none⟩ (.bool true)) (TryR n (some ⟨ba, oa, none⟩) c ba oa b bp bs lv ((wr.drewN m).setCell ⟨bs, k, none⟩ (.bool true)) pr (putB sn1 k) s)) := ⟨fun m => by
                rw [hse]
                refine IH.out _ pr (putB sn1 k) s ?_ (HM1.out m) (mid_pre HP.out HD.out HHK.out HS.out hsn hse)
                have := uns_put (n := n) hk HS.out
                have := uns_mono (n := n) HD.out.ge
                have := HU.out
                omega⟩
              have HSE := Aside0.mk (And.intro hsn hse)
              clear hkeq hS hS' hsn hse
              go_wp2_with fail
              go_quiet (fail)
              go_wp2_with (first
                | (go_at_call 72; refine (HC.out _).mono ?_; clear k0 k1 k2 k3; rintro e w2 ⟨res, pr1, sn2, rfl, hm2, ht2, hno, hyes⟩; have HM2 := Aside0.mk hm2; have HT2 := Aside0.mk ht2; have HNO := Aside0.mk hno; have HYES := Aside0.mk hyes; clear hm2 ht2 hno hyes; have j0 := HM2.out.c0; have j1 := HM2.out.c1; have j2 := HM2.out.rp.cell HHK.out; have j3 := HM2.out.rp.frozen k; cases res))
              · have hno := HNO.out trivial
                obtain ⟨hpr, hno⟩ := hno
                subst hpr
                obtain ⟨g2, hg2⟩ : ∃ g2, g2 = gk - 1 := ⟨_, rfl⟩
                go_roundg g2
                case measure => have := HI.out; omega
                case rel => exact ⟨k + 1, sn2, by go_num, ⟨by have := HI.out; omega⟩, ⟨HM2.out⟩, ⟨mid_fail HD.out HHK.out HSE.out.1 HSE.out.2 hno⟩, ⟨((HT.out.drewN _).set (.inr rfl) _).trans HT2.out⟩⟩
              · go_ret
                exact ⟨true, put pr1 k i, sn2, rfl, HM2.out.give k i, (((HT.out.drewN _).set (.inr rfl) _).trans HT2.out).set (.inl rfl) _, fun h => (by cases h), fun _ => mid_yes HP.out HD.out HHK.out HEd.out HS.out HSE.out.1 HSE.out.2 (HYES.out trivial)⟩
        · have e2 : (Go.bits .and .i64 x y != x) = true := bne_iff_ne.2 hE
          have HE := Aside0.mk hE
          clear hE
          go_wp2_with fail
          go_quiet (fail)
          go_wp2
          obtain ⟨g2, hg2⟩ : ∃ g2, g2 = gk - 1 := ⟨_, rfl⟩
          go_roundg g2
          case measure => have := HI.out; omega
          case rel => exact ⟨k + 1, sn1, by go_num, ⟨by have := HI.out; omega⟩, by first | exact ⟨HM.out⟩ | exact ⟨HM.out.drew⟩ | exact ⟨HM.out.drewN _⟩, ⟨mid_skip HD.out fun _ he => absurd he.2 (by rw [← HXY.out.1, ← HXY.out.2]; exact HE.out)⟩, by first | exact ⟨HT.out⟩ | exact ⟨HT.out.drew⟩ | exact ⟨HT.out.drewN _⟩⟩
    · have hid : decide (k < n) = false := decide_eq_false hk
      go_wp2_with fail
      go_ret
      have hkn : k = n := by have := HI.out; omega
      subst hkn
      exact ⟨false, pr, sn1, rfl, HM.out, HT.out, fun _ => ⟨rfl, mid_end HD.out⟩, fun h => (by cases h)⟩

end Go.Proofs.Ytcmllllbmgcnlaa.Ch

namespace Go.Proofs.Ytcmllllbmgcnlaa.Ch
open Go.RowKit Go.Deep Go.Proofs.Ytcmllllbmgcnlaa.C Go.Proofs.Ytcmllllbmgcnlaa.ChT Go.Proofs.YtcmllllbmgcnlaaW.PrintWords Go.Proofs.YtcmllllbmgcnlaaW.PrintLast Go.Proofs.YtcmllllbmgcnlaaW.PrintMore
set_option linter.unusedVariables false
set_option linter.unusedSimpArgs false

theorem info4 : (Try.prog.info? 4).map (fun i => (i.zero, i.size, i.bytes)) = some (some (.bool false), 1, 1) := by kernel_rfl

/-- The cells of a new row, by the index. -/
theorem r_cells {w : World} {base : Nat} {ok : Nat → Prop} {v : Value} {r : List Int} (h : Kd.R (Kd.int .i64) 3 w base ok v r) :
    ∃ A c ba, v = .slice A r.length c ∧ r.length ≤ c ∧ ba < w.heap.size + 1 ∧ (0 < r.length → ba < w.heap.size) ∧ ∀ k, k < r.length → A = some ⟨ba, 0, none⟩ ∧ w.cell? ⟨ba, 0 + k, none⟩ = some (.int .i64 r[k]!) := by
  obtain ⟨A, c, rfl, hs⟩ := R_sl h
  by_cases hp : 0 < r.length
  · obtain ⟨g, cap, e, hb, hl, _⟩ := Kd.R_form h hp
    injection e with e1 e2 e3
    subst e1
    refine ⟨_, c, g, rfl, hs.le, by omega, fun _ => hl, fun k hk => ⟨rfl, ?_⟩⟩
    obtain ⟨ad, e, hc⟩ := sl_cells hs k hk
    injection e with e
    subst e
    rw [getElem!_pos r k hk]
    by_cases e0 : k = 0
    · subst e0; simpa [Addr.add] using hc
    · simpa [Addr.add, e0] using hc
  · exact ⟨A, c, w.heap.size, rfl, hs.le, by omega, fun h => absurd h hp, fun k hk => absurd hk (by omega)⟩

/-- The matcher's struct. -/
def stf (A : Option Addr) (n c bp : Nat) (v2 : Value) : Nat → Value := fun j => if j = 0 then .slice A n c else if j = 1 then .slice (some ⟨bp, 0, none⟩) n n else v2

/-- At the head of Least's third loop. -/
structure LW (n : Nat) (A : Option Addr) (c ba N : Nat) (lv : Nat → Int) (w1 : World) (wr : World) (pr : Nat → Int) : Prop where
  below : Below N w1 wr
  sz : w1.heap.size = N
  rb : ∃ v2, wr.rowIs (N + 1) 107 3 (stf A n c N v2)
  rp : wr.rowIs N 3 n (fun k => .int .i64 (pr k))
  la : ∀ k, k < n → A = some ⟨ba, 0, none⟩ ∧ w1.cell? ⟨ba, 0 + k, none⟩ = some (.int .i64 (lv k))
  lb : 0 < n → ba < N

theorem below_two {N bs : Nat} {w1 wr w2 : World} (h : Below N w1 wr) (hb : N ≤ bs) (t : Two2 N bs wr w2) : Below N w1 w2 :=
  ⟨t.os.trans h.os, t.tape.trans h.tape, t.output.trans h.output, by rw [t.size]; exact h.size, fun k hk => (t.block k (by omega) (by omega)).trans (h.block k hk)⟩

section
variable {n : Nat} {A : Option Addr} {c ba N : Nat} {lv : Nat → Int} {w1 wr w2 : World} {pr pr' : Nat → Int} {sn' : Nat → Bool}
theorem LW.lt (h : LW n A c ba N lv w1 wr pr) : N + 1 < wr.heap.size := by obtain ⟨v2, h1⟩ := h.rb; exact h1.lt
/-- A round's own row of marks. -/
theorem LW.see (h : LW n A c ba N lv w1 wr pr) : MW n A c ba 0 (N + 1) N wr.heap.size lv ((wr.alloc (.cells (madeCells #[.bool false] n) 4)).setCell ⟨N + 1, 2, none⟩ (.slice (some ⟨wr.heap.size, 0, none⟩) n n)) pr (fun _ => false) := by
  obtain ⟨v2, h1⟩ := h.rb
  have hlt := h1.lt
  have hs := (h1.alloc (.cells (madeCells #[.bool false] n) 4)).set 2 (.slice (some ⟨wr.heap.size, 0, none⟩) n n)
  refine ⟨by simpa [stf] using hs.cell (i := 0) (by omega), by simpa [stf] using hs.cell (i := 1) (by omega), by simpa [stf] using hs.cell (i := 2) (by omega), ?_, ?_, fun k hk => ⟨(h.la k hk).1, ?_⟩, ?_, ?_, fun hp => ?_⟩
  · exact (h.rp.alloc _).setOther (by show N ≠ N + 1; omega) _
  · exact (World.rowIs_made wr (.bool false) n 4).setOther (by show wr.heap.size ≠ N + 1; omega) _
  · rw [cell_ne _ _ (by show ba ≠ N + 1; have := h.lb (by omega); omega)]
    have hb : Below N w1 (wr.alloc (.cells (madeCells #[.bool false] n) 4)) := h.below.alloc (by omega) _
    rw [hb.cell (p := ⟨ba, 0 + k, none⟩) (h.lb (by omega))]
    exact (h.la k hk).2
  · omega
  · exact ⟨by omega, by omega⟩
  · have := h.lb hp; exact ⟨by omega, by omega⟩
theorem LW.back (h : LW n A c ba N lv w1 wr pr) {wm : World} (hwm : wm = (wr.alloc (.cells (madeCells #[.bool false] n) 4)).setCell ⟨N + 1, 2, none⟩ (.slice (some ⟨wr.heap.size, 0, none⟩) n n)) (t : Two2 N wr.heap.size wm w2) (m : MW n A c ba 0 (N + 1) N wr.heap.size lv w2 pr' sn') : LW n A c ba N lv w1 w2 pr' := by
  obtain ⟨v2, h1⟩ := h.rb
  have hlt := h1.lt
  subst hwm
  have hb : Below N w1 ((wr.alloc (.cells (madeCells #[.bool false] n) 4)).setCell ⟨N + 1, 2, none⟩ (.slice (some ⟨wr.heap.size, 0, none⟩) n n)) := (h.below.alloc (by omega) _).setCell (by show N ≤ N + 1; omega) _
  refine ⟨below_two hb (by omega) t, h.sz, ⟨.slice (some ⟨wr.heap.size, 0, none⟩) n n, ?_⟩, m.rp, h.la, h.lb⟩
  refine (((h1.alloc _).set 2 _).congr (g := stf A n c N (.slice (some ⟨wr.heap.size, 0, none⟩) n n)) fun i hi => ?_).of_block (t.block (N + 1) (by omega) (by omega))
  unfold stf
  by_cases e : i = 2
  · subst e; simp
  · by_cases e0 : i = 0
    · subst e0; simp
    · by_cases e1 : i = 1
      · subst e1; simp
      · omega
theorem LW.drewN (h : LW n A c ba N lv w1 wr pr) (m : Nat) : LW n A c ba N lv w1 (wr.drewN m) pr := ⟨pw_below_drewN h.below m, h.sz, h.rb, h.rp, h.la, h.lb⟩
theorem LW.put (h : LW n A c ba N lv w1 wr pr) (k : Nat) (v : Int) : LW n A c ba N lv w1 (wr.setCell ⟨N, k, none⟩ (.int .i64 v)) (put pr k v) := by
  obtain ⟨v2, h1⟩ := h.rb
  exact ⟨h.below.setCell (Nat.le_refl _) _, h.sz, ⟨v2, h1.setOther (by show N + 1 ≠ N; omega) _⟩, (h.rp.set k _).congr (fun j _ => by unfold Ch.put; by_cases e : j = k <;> simp [e]), h.la, h.lb⟩
end

end Go.Proofs.Ytcmllllbmgcnlaa.Ch

namespace Go.Proofs.Ytcmllllbmgcnlaa.Ch
open Go.RowKit Go.Deep Go.Proofs.Ytcmllllbmgcnlaa.C Go.Proofs.Ytcmllllbmgcnlaa.ChT Go.Proofs.YtcmllllbmgcnlaaW.PrintWords Go.Proofs.YtcmllllbmgcnlaaW.PrintLast Go.Proofs.YtcmllllbmgcnlaaW.PrintMore
set_option linter.unusedVariables false
set_option linter.unusedSimpArgs false

/-- What Least answers, with the reference's numbers. -/
def LeastR (l : List Int) (x y : Int) : Prop := y = wrongS 8 l ∧ (y ≠ 0 → x = 0) ∧ (y = 0 → ∃ n : Nat, LeastIs l n ∧ x = n)

theorem shr8 (x : Int) : shr .i64 x 8 = x / 256 := by
  have h : min ((8 : Int)).toNat IntKind.i64.bits = 8 := rfl
  unfold shr
  rw [h]
  rfl
theorem wrong_many {l : List Int} {w : Int} (h : 256 < l.length) : wrongS w l = 3 := by unfold wrongS; rw [if_pos h]
theorem wrong_bad {l : List Int} {w : Int} (h : l.length ≤ 256) (hb : Bad w l) : wrongS w l = 1 := by unfold wrongS; rw [if_neg (by omega), if_pos hb]
theorem wrong_ok {l : List Int} {w : Int} (h : l.length ≤ 256) (hb : ¬ Bad w l) : wrongS w l = 0 := by unfold wrongS; rw [if_neg (by omega), if_neg hb]

theorem lw_start {w1 : World} {u : List Int} {A : Option Addr} {c ba : Nat} (h : (0 < u.length → ba < w1.heap.size) ∧ ∀ k, k < u.length → A = some ⟨ba, 0, none⟩ ∧ w1.cell? ⟨ba, 0 + k, none⟩ = some (.int .i64 u[k]!)) :
    LW u.length A c ba w1.heap.size (fun k => u[k]!) w1 ((w1.alloc (.cells (madeCells #[.int .i64 0] u.length) 3)).alloc (.cells #[.slice A u.length c, .slice (some ⟨w1.heap.size, 0, none⟩) u.length u.length, .slice none 0 0] 107)) (fun _ => 0) := by
  refine ⟨((Below.refl _ w1).alloc (Nat.le_refl _) _).alloc (by simp) _, rfl, ⟨.slice none 0 0, ?_⟩, (World.rowIs_made w1 (.int .i64 0) u.length 3).alloc _, h.2, h.1⟩
  have := World.rowIs_alloc (w1.alloc (.cells (madeCells #[.int .i64 0] u.length) 3)) #[.slice A u.length c, .slice (some ⟨w1.heap.size, 0, none⟩) u.length u.length, .slice none 0 0] 107 (stf A u.length c w1.heap.size (.slice none 0 0)) (fun i hi => by
    have hi3 : i < 3 := hi
    rcases i with _ | _ | _ | i
    · rfl
    · rfl
    · rfl
    · omega)
  simpa using this
theorem LW.congr {n : Nat} {A : Option Addr} {c ba N : Nat} {lv : Nat → Int} {w1 wr : World} {pr pr' : Nat → Int} (h : LW n A c ba N lv w1 wr pr) (e : ∀ k, k < n → pr k = pr' k) : LW n A c ba N lv w1 wr pr' :=
  ⟨h.below, h.sz, h.rb, h.rp.congr fun k hk => by rw [e k hk], h.la, h.lb⟩
theorem refO_congr {n : Nat} {E : Nat → Nat → Prop} {i : Nat} {F : List Nat} {pr pr' : Nat → Int} (h : RefO n E pr i F) (e : ∀ k, k < n → pr k = pr' k) : RefO n E pr' i F := by
  obtain ⟨D, h1, h2⟩ := h.dead
  refine ⟨fun k hk => by rw [← e k hk]; exact h.rng k hk, fun k k' hk hk' => by rw [← e k hk, ← e k' hk']; exact h.inj k k' hk hk', fun k hk => by rw [← e k hk]; exact h.edge k hk, h.nodup, fun s => ?_, fun k hk => by rw [← e k hk]; exact h.lt k hk, D, fun k hk => ?_, h2⟩
  · rw [h.mem]
    constructor
    · rintro ⟨a, b⟩; exact ⟨a, fun k hk => by rw [← e k hk]; exact b k hk⟩
    · rintro ⟨a, b⟩; exact ⟨a, fun k hk => by rw [e k hk]; exact b k hk⟩
  · obtain ⟨h3, s, h4, h5⟩ := h1 k hk
    exact ⟨h3, s, by rw [← e k h3]; exact h4, h5⟩

theorem least_end {l u : List Int} {F : List Nat} {pr : Nat → Int} (hu : u = unlR [] l) (h : RefO u.length (Ed fun k => u[k]!) pr u.length F) : LeastIs l (max F.length 1) := by
  obtain ⟨D, hf⟩ := refO_fin h
  have hs := unlR_spec l [] List.nodup_nil
  rw [← hu] at hs
  have := least_of (l := l) hs.1 (fun x => (hs.2.1 x).trans ⟨fun h => h.resolve_left (by simp), fun h => .inr h⟩) hf.most
  have hd := hf.dom_length
  have e : u.length - (u.length - F.length) = F.length := by omega
  rw [e] at this
  exact this

set_option maxHeartbeats 4000000 in
set_option maxRecDepth 100000 in
theorem rleast_many (A : Option Addr) (c : Nat) (l : List Int) (w : World) (h : Sl w A c l) (hn : 256 < l.length) :
    Calls Try.prog 39 #[.slice A l.length c] w fun e w' => (∃ x y, e = .returned (.tuple #[.int .i64 x, .int .i64 y]) ∧ LeastR l x y) ∧ Below w.heap.size w w' := by
  have hd : decide ((l.length : Int) > 256) = true := decide_eq_true (by omega)
  have hd2 : (l.length : Int) > 256 := by omega
  have HN := Aside0.mk hn
  clear h hn
  go_enter Try.func39, Try.ntmps39
  go_wp2
  go_ret2
  exact ⟨⟨0, 3, rfl, (wrong_many HN.out).symm, fun _ => rfl, fun h => absurd h (by decide)⟩, Below.refl _ _⟩

set_option maxHeartbeats 4000000 in
set_option maxRecDepth 100000 in
theorem rleast_few (A : Option Addr) (c : Nat) (l : List Int) (w : World) (h : Sl w A c l) (hn : l.length ≤ 256) :
    Calls Try.prog 39 #[.slice A l.length c] w fun e w' => (∃ x y, e = .returned (.tuple #[.int .i64 x, .int .i64 y]) ∧ LeastR l x y) ∧ Below w.heap.size w w' := by
  have HS := Aside0.mk h
  have HN := Aside0.mk hn
  obtain ⟨q, hq⟩ : ∃ q, q = l.length := ⟨_, rfl⟩
  rw [← hq]
  have HQ := Aside0.mk hq
  have hd : decide ((q : Int) > 256) = false := decide_eq_false (by omega)
  have hq256 : q ≤ 256 := by omega
  have HU : Aside0 (∀ m, Calls Try.prog 71 #[.slice A q c] (w.drewN m) fun e w' => ∃ v, e = .returned v ∧ Kd.R (Kd.int .i64) 3 w' w.heap.size (fun _ => True) v (unlR [] l) ∧ Below w.heap.size w w') := ⟨fun m => by
    rw [hq]
    refine (runlike_calls A c l (w.drewN m) (h.drewN m) (by omega)).mono ?_
    rintro e w' ⟨v, h1, h2, h3⟩
    exact ⟨v, h1, h2, (pw_below_drewN (Below.refl _ w) m).trans h3⟩⟩
  obtain ⟨u, hu⟩ : ∃ u, u = unlR [] l := ⟨_, rfl⟩
  rw [← hu] at HU
  have HUE := Aside0.mk hu
  have hul : u.length ≤ 256 := by have := (unlR_spec l [] List.nodup_nil).2.2; rw [← hu] at this; simp at this; omega
  clear h hn hq hu
  go_enter Try.func39, Try.ntmps39
  go_wp2_with fail
  go_loopg [4] q (fun gk v4 wr => ∃ (i m : Nat), v4 = .int .i64 (i : Int) ∧ Aside0 (i + gk = q) ∧ Aside0 (∀ j (hj : j < l.length), j < i → ¬ (l[j] < 0 ∨ shr .i64 l[j] 8 ≠ 0)) ∧ wr = w.drewN m)
  case atStart => exact ⟨0, 0, rfl, ⟨by omega⟩, ⟨fun j hj h => by omega⟩, (World.drewN_zero _).symm⟩
  case round =>
    obtain ⟨i, m, rfl, HI, HB, rfl⟩ := hrel
    by_cases hi : i < q
    · have hid : decide (i < q) = true := decide_eq_true hi
      have hii : (i : Int) < (q : Int) := by omega
      have hil : i < l.length := by rw [← HQ.out]; exact hi
      obtain ⟨ad, rfl, hcell⟩ := sl_cells HS.out i hil
      obtain ⟨x, hx⟩ : ∃ x, x = l[i] := ⟨_, rfl⟩
      rw [← hx] at hcell
      have HX := Aside0.mk hx
      clear hx
      by_cases h0 : x < 0
      · have h0d : decide (x < 0) = true := decide_eq_true h0
        go_wp2_with fail
        go_ret2
        have hb : Bad 8 l := ⟨x, by rw [HX.out]; exact List.getElem_mem _, .inl h0⟩
        exact ⟨⟨0, 1, rfl, (wrong_bad HN.out hb).symm, fun _ => rfl, fun h => absurd h (by decide)⟩, pw_below_drewN (Below.refl _ w) _⟩
      · have h0d : decide (x < 0) = false := decide_eq_false h0
        have H8 := Aside0.mk (shr8 x)
        by_cases h1 : x / 256 = 0
        · have h1d : (x / 256 != 0) = false := by rw [h1]; rfl
          have H1 := Aside0.mk h1
          have H0 := Aside0.mk h0
          clear h1 h0
          go_wp2_with fail
          obtain ⟨g2, hg2⟩ : ∃ g2, g2 = gk - 1 := ⟨_, rfl⟩
          go_roundg g2
          case measure => have := HI.out; omega
          case rel =>
            refine ⟨i + 1, _, by go_num, ⟨by have := HI.out; omega⟩, ⟨fun j hj hji => ?_⟩, rfl⟩
            rcases Nat.lt_or_eq_of_le (Nat.le_of_lt_succ hji) with h | h
            · exact HB.out j hj h
            · subst h
              rw [← HX.out]
              rintro (h | h)
              · have := H0.out; omega
              · exact h (H8.out.trans H1.out)
        · have h1d : (x / 256 != 0) = true := bne_iff_ne.2 h1
          have H1 := Aside0.mk h1
          clear h1
          go_wp2_with fail
          go_ret2
          have hb : Bad 8 l := ⟨x, by rw [HX.out]; exact List.getElem_mem _, .inr (by rw [H8.out]; exact H1.out)⟩
          exact ⟨⟨0, 1, rfl, (wrong_bad HN.out hb).symm, fun _ => rfl, fun h => absurd h (by decide)⟩, pw_below_drewN (Below.refl _ w) _⟩
    · have hid : decide (i < q) = false := decide_eq_false hi
      have HNB : Aside0 (¬ Bad 8 l) := ⟨by
        rintro ⟨s, hs, h⟩
        obtain ⟨j, hj, rfl⟩ := List.getElem_of_mem hs
        exact HB.out j hj (by have := HQ.out; omega) h⟩
      have hmk3 := run_make_row' (P := Try.prog) 22 3 (.int .i64 0) 8 Try.underlying22 info3 rfl .i64 .i64 u.length (by omega) (by omega)
      go_wp2_with (first
        | (go_at_call 71; refine (HU.out _).mono ?_; rintro e w1 ⟨v, rfl, hr1, hb1⟩; have HR1 := Aside0.mk hr1; have HB1 := Aside0.mk hb1; obtain ⟨Au, cu, ba, rfl, hcu, _, hba, hla⟩ := r_cells HR1.out; have HLA := Aside0.mk (And.intro hba hla); clear hr1 hb1 hba hla))
      have HW0 := Aside0.mk (lw_start (c := cu) HLA.out)
      have HBW : Aside0 (Below w.heap.size w w1) := ⟨HB1.out⟩
      obtain ⟨N, hN⟩ : ∃ N, N = w1.heap.size := ⟨_, rfl⟩
      rw [← hN] at HW0 ⊢
      obtain ⟨n, hn⟩ : ∃ n, n = u.length := ⟨_, rfl⟩
      rw [← hn] at HW0 ⊢
      rw [← hn] at hul
      have HNU := Aside0.mk hn
      clear hmk3 hN hn HLA HR1 hcu
      go_loopg [7] n (fun gk v7 wr => ∃ k : Nat, v7 = .int .i64 (k : Int) ∧ Aside0 (k + gk = n) ∧ Aside0 (LW n Au cu ba N (fun k => u[k]!) w1 wr (fun j => if j < k then -1 else 0)))
      case atStart => exact ⟨0, rfl, ⟨by omega⟩, ⟨HW0.out.congr fun k _ => by simp⟩⟩
      case round =>
        obtain ⟨k, rfl, HK, HL⟩ := hrel
        by_cases hk : k < n
        · have hkd : decide (k < n) = true := decide_eq_true hk
          have hki : (k : Int) < (n : Int) := by omega
          have h1 : wr.cell? ⟨N + 1, 1, none⟩ = some (.slice (some ⟨N, 0, none⟩) n n) := by obtain ⟨v2, h⟩ := HL.out.rb; exact h.cell (i := 1) (by omega)
          have h2 : ∀ m, (wr.drewN m).cell? ⟨N, k, none⟩ = some (.int .i64 0) := fun m => by have := HL.out.rp.cell hk; simpa using this
          have h3 : ∀ m, (wr.drewN m).frozen? ⟨N, k, none⟩ = false := fun m => HL.out.rp.frozen k
          have h2' := HL.out.rp.cell hk
          simp only [Nat.lt_irrefl, if_false] at h2'
          have h3' := HL.out.rp.frozen k
          go_wp2_with fail
          obtain ⟨g2, hg2⟩ : ∃ g2, g2 = gk - 1 := ⟨_, rfl⟩
          go_roundg g2
          case measure => have := HK.out; omega
          case rel =>
            refine ⟨k + 1, by go_num, ⟨by have := HK.out; omega⟩, ⟨LW.congr (by first | exact HL.out.put k (-1) | exact (HL.out.drewN _).put k (-1)) fun j hj => ?_⟩⟩
            unfold Ch.put
            by_cases e : j = k
            · subst e; simp
            · rw [if_neg e]
              show (if j < k then (-1 : Int) else 0) = _
              by_cases h : j < k
              · rw [if_pos h, if_pos (by omega)]
              · rw [if_neg h, if_neg (by omega)]
        · have hkd : decide (k < n) = false := decide_eq_false hk
          have HL0 : Aside0 (LW n Au cu ba N (fun k => u[k]!) w1 wr (fun _ => -1)) := ⟨LW.congr HL.out fun j hj => by rw [if_pos (by have := HK.out; omega)]⟩
          clear HL HK
          go_wp2_with fail
          clear hkd hk
          go_loopg [8, 9] n (fun gk v8 v9 wr => ∃ (i nn : Nat) (pr : Nat → Int) (F : List Nat), v9 = .int .i64 (i : Int) ∧ v8 = .int .i64 (nn : Int) ∧ Aside0 (i + gk = n ∧ nn = (n - i) + F.length ∧ F.length ≤ i) ∧ Aside0 (RefO n (Ed fun k => u[k]!) pr i F) ∧ Aside0 (LW n Au cu ba N (fun k => u[k]!) w1 wr pr))
          case atStart => exact ⟨0, n, fun _ => -1, [], rfl, rfl, ⟨⟨by omega, by simp, by simp⟩⟩, ⟨refO_start⟩, HL0⟩
          case round =>
            obtain ⟨i, nn, pr, F, rfl, rfl, HI3, HO, HL⟩ := hrel
            by_cases hi3 : i < n
            · have hid3 : decide (i < n) = true := decide_eq_true hi3
              have hii3 : (i : Int) < (n : Int) := by omega
              have hmk := run_make_row' (P := Try.prog) 105 4 (.bool false) 1 Try.underlying105 info4 rfl .i64 .i64 n (by omega) (by omega)
              obtain ⟨v2, hv2⟩ : ∃ v2, ∀ o, (wr.alloc o).cell? ⟨N + 1, 2, none⟩ = some v2 ∧ (wr.alloc o).frozen? ⟨N + 1, 2, none⟩ = false := by
                obtain ⟨v2, h⟩ := HL.out.rb
                exact ⟨_, fun o => ⟨(h.alloc o).cell (i := 2) (by omega), (h.alloc o).frozen 2⟩⟩
              have s1 := fun o => (hv2 o).1
              have s2 := fun o => (hv2 o).2
              have HC := Aside0.mk (try_calls n Au cu ba 0 (N + 1) N wr.heap.size (fun k => u[k]!) (by omega) (n + 1) _ pr (fun _ => false) i (by have := uns_le n (fun _ => false); omega) HL.out.see (refO_pre HO.out hi3))
              have HI3L := Aside0.mk hi3
              clear hv2
              go_wp2_with (first
                | (go_at_call 72; refine (HC.out).mono ?_; clear s1 s2 hmk; rintro e w2 ⟨res, pr1, sn2, rfl, hm2, ht2, hno, hyes⟩; have HL2 := Aside0.mk (HL.out.back rfl ht2 hm2); have HNO := Aside0.mk hno; have HYES := Aside0.mk hyes; clear hm2 ht2 hno hyes HC; cases res))
              · obtain ⟨hpr, hno⟩ := HNO.out trivial
                subst hpr
                obtain ⟨g2, hg2⟩ : ∃ g2, g2 = gk - 1 := ⟨_, rfl⟩
                go_roundg g2
                case measure => have := HI3.out; omega
                case rel => exact ⟨i + 1, nn, pr1, F ++ [i], by go_num, rfl, ⟨⟨by have := HI3.out; omega, by have := HI3.out; simp only [List.length_append, List.length_cons, List.length_nil]; omega, by have := HI3.out; simp only [List.length_append, List.length_cons, List.length_nil]; omega⟩⟩, ⟨refO_no HO.out HI3L.out hno⟩, HL2⟩
              · have hyes := HYES.out trivial
                have hnn : 1 ≤ nn := by have := HI3.out; omega
                have hnn2 : nn ≤ 256 := by have := HI3.out; omega
                obtain ⟨g2, hg2⟩ : ∃ g2, g2 = gk - 1 := ⟨_, rfl⟩
                go_roundg g2
                case measure => have := HI3.out; omega
                case rel => exact ⟨i + 1, nn - 1, pr1, F, by go_num, by first | go_num | (congr 1; unfold wrap64; omega), ⟨⟨by have := HI3.out; omega, by have := HI3.out; omega, by have := HI3.out; omega⟩⟩, ⟨refO_yes HO.out HI3L.out hyes⟩, HL2⟩
            · have hid3 : decide (i < n) = false := decide_eq_false hi3
              go_wp2_with fail
              all_goals
                go_ret2
                have hin : i = n := by have := HI3.out; omega
                have hO := HO.out
                rw [hin, HNU.out] at hO
                have hL := least_end HUE.out hO
                have hF : nn = F.length := by have := HI3.out; omega
                rw [← hF] at hL
                exact ⟨⟨_, 0, rfl, (wrong_ok HN.out HNB.out).symm, fun h => absurd rfl h, fun _ => ⟨_, hL, by omega⟩⟩, HBW.out.trans (HL.out.below.mono (by have := HBW.out.size; have := HL.out.sz; omega))⟩

theorem rleast_calls (A : Option Addr) (c : Nat) (l : List Int) (w : World) (h : Sl w A c l) :
    Calls Try.prog 39 #[.slice A l.length c] w fun e w' => (∃ x y, e = .returned (.tuple #[.int .i64 x, .int .i64 y]) ∧ LeastR l x y) ∧ Below w.heap.size w w' := by
  by_cases hn : 256 < l.length
  · exact rleast_many A c l w h hn
  · exact rleast_few A c l w h (by omega)

end Go.Proofs.Ytcmllllbmgcnlaa.Ch
