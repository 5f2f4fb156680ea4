/- Reading, plain: a byte, a number; a reader that is cut short. Reading, plain: a program; what was written is read, what is read has just these bytes. The reader in memory; a byte taken. A byte taken: the walk. The three closures that tell whether a byte may stand there. A number taken: the walk. A signed number taken; a text taken: the walks. A program taken: what the reader has made so far. -/
import Derived.Test.YtdecgknnbegobaaK3
import Derived.WalkLawsBesides
import Derived.Deep.RegionHeld3
import Derived.Lib.SmallJoins
import Derived.BigQuiet
import Derived.Laws.BytesArg
import Derived.Deep.AppendLies
namespace Go.Proofs.Ytdecgknnbegobaa.Cd
open Go.RowKit Go.Lib Go.Maps Go.Proofs.Ytdecgknnbegobaa.D Go.Proofs.YtdecgknnbegobaaW.PrintWords Go.Proofs.YtdecgknnbegobaaW.PrintLast Go.Proofs.YtdecgknnbegobaaW.PrintMore
set_option linter.unusedVariables false
set_option linter.unusedSimpArgs false

/-- What reading answers: a datum and the place behind it, or the place of the wrong byte. -/
inductive Rs (α : Type) where
  | ok (a : α) (at' : Nat)
  | bad (at' : Nat)
def Rs.bind {α β : Type} (r : Rs α) (f : α → Nat → Rs β) : Rs β := match r with
  | .ok a p => f a p
  | .bad p => .bad p
/-- A byte that may stand there. -/
def rd1 (B : List Int) (may : Int → Bool) (p : Nat) : Rs Int :=
  match B[p]? with
  | some c => if may c then .ok c (p + 1) else .bad p
  | none => .bad p
/-- May a byte stand in a number? -/
def mayN (most shift n : Nat) (c : Int) : Bool :=
  !(decide (shift > 63) || (decide (c = 0) && decide (shift > 0)) || decide (c % 128 > (((most - n) / 2 ^ shift : Nat) : Int))) &&
    (decide (c < 128) || (decide ((((most - n) / 2 ^ shift : Nat) : Int) ≥ 128) && decide (((((most - n) / 2 ^ shift : Nat) : Int) - c % 128) / 128 ≥ 1)))
def rdN (B : List Int) (most : Nat) : Nat → Nat → Nat → Nat → Rs Nat
  | 0, _, _, p => .bad p
  | f + 1, shift, n, p => match rd1 B (mayN most shift n) p with
    | .bad q => .bad q
    | .ok c q => if c < 128 then .ok (n + (c % 128).toNat * 2 ^ shift) q else rdN B most f (shift + 7) (n + (c % 128).toNat * 2 ^ shift) q
def rdNum (most : Nat) (B : List Int) (p : Nat) : Rs Nat := rdN B most 11 0 0 p

/-- A reader that is cut short is refused at the cut. -/
structure CutsAt {α : Type} (r : List Int → Nat → Rs α) (B : List Int) (p : Nat) : Prop where
  le : ∀ a q, r B p = .ok a q → p ≤ q ∧ (p ≤ B.length → q ≤ B.length)
  short : ∀ a q, r B p = .ok a q → ∀ cut, cut ≤ B.length → p ≤ cut → cut < q → r (B.take cut) p = .bad cut
  long : ∀ a q, r B p = .ok a q → ∀ cut, cut ≤ B.length → q ≤ cut → r (B.take cut) p = .ok a q
def Cuts {α : Type} (r : List Int → Nat → Rs α) : Prop := ∀ B p, CutsAt r B p
theorem cuts_pure {α : Type} (a : α) : Cuts (fun _ p => Rs.ok a p) := fun B p => by
  constructor
  · intro b q h; injection h with h1 h2; subst h2; exact ⟨Nat.le_refl _, id⟩
  · intro b q h cut _ h1 h2; injection h with h3 h4; omega
  · intro b q h cut _ _; exact h
theorem cuts_bind {α β : Type} {r : List Int → Nat → Rs α} {s : α → List Int → Nat → Rs β} (hr : Cuts r) (hs : ∀ a, Cuts (s a)) : Cuts (fun B p => (r B p).bind fun a q => s a B q) := fun B p => by
  have key : ∀ b q, ((r B p).bind fun a q => s a B q) = .ok b q → ∃ a m, r B p = .ok a m ∧ s a B m = .ok b q := by
    intro b q h
    cases e : r B p with
    | ok a m => rw [e] at h; exact ⟨a, m, rfl, h⟩
    | bad m => rw [e] at h; cases h
  constructor
  · intro b q h
    obtain ⟨a, m, h1, h2⟩ := key b q h
    have l1 := (hr B p).le a m h1
    have l2 := (hs a B m).le b q h2
    exact ⟨by omega, fun hp => l2.2 (l1.2 hp)⟩
  · intro b q h cut hc h1 h2
    obtain ⟨a, m, e1, e2⟩ := key b q h
    show ((r (B.take cut) p).bind fun a q => s a (B.take cut) q) = .bad cut
    by_cases hm : cut < m
    · rw [(hr B p).short a m e1 cut hc h1 hm]; rfl
    · rw [(hr B p).long a m e1 cut hc (by omega)]
      exact (hs a B m).short b q e2 cut hc (by omega) h2
  · intro b q h cut hc h1
    obtain ⟨a, m, e1, e2⟩ := key b q h
    have l2 := (hs a B m).le b q e2
    show ((r (B.take cut) p).bind fun a q => s a (B.take cut) q) = .ok b q
    rw [(hr B p).long a m e1 cut hc (by omega)]
    exact (hs a B m).long b q e2 cut hc h1
theorem rd1_ok {B : List Int} {may : Int → Bool} {p q : Nat} {c : Int} (h : rd1 B may p = .ok c q) : B[p]? = some c ∧ may c = true ∧ q = p + 1 := by
  unfold rd1 at h
  split at h
  · rename_i x hx
    split at h
    · rename_i hm
      injection h with h1 h2
      subst h1
      exact ⟨hx, hm, h2.symm⟩
    · cases h
  · cases h
theorem rd1_hit {B : List Int} {may : Int → Bool} {p : Nat} {c : Int} (h : B[p]? = some c) (hm : may c = true) : rd1 B may p = .ok c (p + 1) := by
  unfold rd1
  rw [h]
  simp [hm]
theorem cuts_rd1 (may : Int → Bool) : Cuts (fun B p => rd1 B may p) := fun B p => by
  constructor
  · intro a q h
    obtain ⟨h1, _, h3⟩ := rd1_ok h
    have := (List.getElem?_eq_some_iff.1 h1).1
    omega
  · intro a q h cut hc h1 h2
    obtain ⟨h3, _, h4⟩ := rd1_ok h
    have e : p = cut := by omega
    subst e
    show rd1 (B.take p) may p = .bad p
    unfold rd1
    rw [List.getElem?_eq_none (by simp [List.length_take]; omega)]
  · intro a q h cut hc h1
    obtain ⟨h3, h4, h5⟩ := rd1_ok h
    show rd1 (B.take cut) may p = .ok a q
    rw [h5]
    exact rd1_hit (by rw [List.getElem?_take_of_lt (by omega)]; exact h3) h4
theorem cuts_bad {α : Type} (B : List Int) (p : Nat) (r : List Int → Nat → Rs α) (h : ∃ q, r B p = .bad q) : CutsAt r B p := by
  obtain ⟨q, h⟩ := h
  constructor <;> (intro a m e; rw [h] at e; cases e)
theorem cuts_rdN (most : Nat) : ∀ (f shift n : Nat), Cuts (fun B p => rdN B most f shift n p)
  | 0, shift, n => fun B p => cuts_bad B p _ ⟨p, rfl⟩
  | f + 1, shift, n => by
    have h := cuts_bind (s := fun (c : Int) B q => if c < 128 then Rs.ok (n + (c % 128).toNat * 2 ^ shift) q else rdN B most f (shift + 7) (n + (c % 128).toNat * 2 ^ shift) q) (cuts_rd1 (mayN most shift n)) (by
      intro c
      by_cases hc : c < 128
      · simp only [hc, if_true]; exact cuts_pure _
      · simp only [hc, if_false]; exact cuts_rdN most f _ _)
    have e : (fun (B : List Int) (p : Nat) => rdN B most (f + 1) shift n p) = (fun B p => (rd1 B (mayN most shift n) p).bind fun a q => (fun (c : Int) B q => if c < 128 then Rs.ok (n + (c % 128).toNat * 2 ^ shift) q else rdN B most f (shift + 7) (n + (c % 128).toNat * 2 ^ shift) q) a B q) := by
      funext B p
      conv => lhs; unfold rdN
      cases rd1 B (mayN most shift n) p with
      | ok a q => rfl
      | bad q => rfl
    rw [e]
    exact h

theorem mayN_spec {most shift n : Nat} {c : Int} : mayN most shift n c = true ↔ shift ≤ 63 ∧ ¬ (c = 0 ∧ 0 < shift) ∧ c % 128 ≤ (((most - n) / 2 ^ shift : Nat) : Int) ∧ (c < 128 ∨ ((((most - n) / 2 ^ shift : Nat) : Int) ≥ 128 ∧ ((((most - n) / 2 ^ shift : Nat) : Int) - c % 128) / 128 ≥ 1)) := by
  unfold mayN
  simp only [Bool.and_eq_true, Bool.not_eq_true', Bool.or_eq_false_iff, Bool.and_eq_false_iff, decide_eq_false_iff_not, Bool.or_eq_true, decide_eq_true_eq]
  omega

/-- A number that was written is read. -/
theorem rdN_write (B : List Int) (most : Nat) (hm : most < 2 ^ 64) : ∀ (k f shift n m p : Nat), m < 128 ^ (k + 1) → k + 1 ≤ f → n + m * 2 ^ shift ≤ most → (0 < shift → 0 < m) → (∀ (j : Nat) (c : Int), (cntF (k + 1) m)[j]? = some c → B[p + j]? = some c) →
    rdN B most f shift n p = .ok (n + m * 2 ^ shift) (p + (cntF (k + 1) m).length) := by
  intro k
  induction k with
  | zero =>
    intro f shift n m p h1 h2 h3 h4 h5
    obtain ⟨f, rfl⟩ : ∃ g, f = g + 1 := ⟨f - 1, by omega⟩
    have e : cntF 1 m = [(m : Int)] := by unfold cntF; rw [if_neg (by omega)]
    rw [e] at h5 ⊢
    have h6 : B[p]? = some (m : Int) := h5 0 m (by simp)
    have h7 : m ≤ (most - n) / 2 ^ shift := (Nat.le_div_iff_mul_le (Nat.two_pow_pos _)).2 (by omega)
    have h8 : shift ≤ 63 := by
      rcases Nat.lt_or_ge 63 shift with h | h
      · exfalso
        have := h4 (by omega)
        have : 2 ^ 64 ≤ 2 ^ shift := Nat.pow_le_pow_right (by omega) h
        have := Nat.mul_le_mul ‹0 < m› this
        omega
      · exact h
    unfold rdN
    rw [rd1_hit h6 (mayN_spec.2 ⟨h8, by omega, by omega, .inl (by omega)⟩)]
    have e2 : ((m : Int) % 128).toNat = m := by omega
    simp only [e2, List.length_singleton]
    rw [if_pos (by omega)]
  | succ k ih =>
    intro f shift n m p h1 h2 h3 h4 h5
    obtain ⟨f, rfl⟩ : ∃ g, f = g + 1 := ⟨f - 1, by omega⟩
    have h7 : m ≤ (most - n) / 2 ^ shift := (Nat.le_div_iff_mul_le (Nat.two_pow_pos _)).2 (by omega)
    by_cases hb : m > 127
    · have e : cntF (k + 1 + 1) m = ((m % 128 + 128 : Nat) : Int) :: cntF (k + 1) (m / 128) := by rw [cntF, if_pos hb]
      rw [e] at h5 ⊢
      have h6 : B[p]? = some ((m % 128 + 128 : Nat) : Int) := h5 0 _ (by simp)
      have h8 : shift ≤ 63 := by
        rcases Nat.lt_or_ge 63 shift with h | h
        · exfalso
          have : 2 ^ 64 ≤ 2 ^ shift := Nat.pow_le_pow_right (by omega) h
          have := Nat.mul_le_mul (show 1 ≤ m by omega) this
          omega
        · exact h
      unfold rdN
      rw [rd1_hit h6 (mayN_spec.2 ⟨h8, by omega, by omega, .inr ⟨by omega, by omega⟩⟩)]
      have e2 : (((m % 128 + 128 : Nat) : Int) % 128).toNat = m % 128 := by omega
      simp only [e2]
      rw [if_neg (by omega)]
      have hp : 2 ^ (shift + 7) = 2 ^ shift * 128 := by rw [Nat.pow_add]
      have hq : m / 128 * (2 ^ shift * 128) + m % 128 * 2 ^ shift = m * 2 ^ shift := by
        have : m / 128 * (2 ^ shift * 128) = (128 * (m / 128)) * 2 ^ shift := by rw [Nat.mul_comm (2 ^ shift), ← Nat.mul_assoc, Nat.mul_comm (m / 128)]
        rw [this, ← Nat.add_mul, Nat.div_add_mod]
      rw [ih f (shift + 7) (n + m % 128 * 2 ^ shift) (m / 128) (p + 1) (by rw [Nat.pow_succ] at h1; exact Nat.div_lt_of_lt_mul (by omega)) (by omega) (by rw [hp]; omega) (by omega) (fun j c hj => by have := h5 (j + 1) c (by simpa using hj); rw [← this]; congr 1; omega)]
      rw [hp, List.length_cons]
      congr 1 <;> omega
    · have e : cntF (k + 1 + 1) m = [(m : Int)] := by rw [cntF, if_neg hb]
      have e' : cntF (0 + 1) m = [(m : Int)] := by rw [cntF, if_neg hb]
      rw [e] at h5 ⊢
      have h6 : B[p]? = some (m : Int) := h5 0 m (by simp)
      have h8 : shift ≤ 63 := by
        rcases Nat.lt_or_ge 63 shift with h | h
        · exfalso
          have := h4 (by omega)
          have : 2 ^ 64 ≤ 2 ^ shift := Nat.pow_le_pow_right (by omega) h
          have := Nat.mul_le_mul ‹0 < m› this
          omega
        · exact h
      unfold rdN
      rw [rd1_hit h6 (mayN_spec.2 ⟨h8, by omega, by omega, .inl (by omega)⟩)]
      have e2 : ((m : Int) % 128).toNat = m := by omega
      simp only [e2, List.length_singleton]
      rw [if_pos (by omega)]

/-- A list stands at a place. -/
def At (B l : List Int) (p : Nat) : Prop := ∀ (j : Nat) (c : Int), l[j]? = some c → B[p + j]? = some c
theorem At.left {B l m : List Int} {p : Nat} (h : At B (l ++ m) p) : At B l p := fun j c hj => h j c (by rw [List.getElem?_append_left (List.getElem?_eq_some_iff.1 hj).1]; exact hj)
theorem At.right {B l m : List Int} {p : Nat} (h : At B (l ++ m) p) : At B m (p + l.length) := fun j c hj => by
  have := h (l.length + j) c (by rw [List.getElem?_append_right (by omega)]; simpa using hj)
  rw [← this]; congr 1; omega
theorem rdNum_write {B : List Int} {most m p : Nat} (h1 : m ≤ most) (h2 : most < 2 ^ 64) (h : At B (cnt m) p) : rdNum most B p = .ok m (p + (cnt m).length) := by
  have := rdN_write B most h2 9 11 0 0 m p (by omega) (by omega) (by omega) (by omega) h
  rw [rdNum, this]
  simp [cnt]
/-- A number that is read has just these bytes. -/
theorem rdN_read (B : List Int) (hB : ∀ c ∈ B, 0 ≤ c ∧ c ≤ 255) (most : Nat) : ∀ (f shift n p v q : Nat), n ≤ most → rdN B most f shift n p = .ok v q → ∃ m, v = n + m * 2 ^ shift ∧ v ≤ most ∧ (0 < shift → 0 < m) ∧ At B (cntF f m) p ∧ q = p + (cntF f m).length := by
  intro f
  induction f with
  | zero => intro shift n p v q _ h; cases h
  | succ f ih =>
    intro shift n p v q hn h
    unfold rdN at h
    cases e : rd1 B (mayN most shift n) p with
    | bad r => rw [e] at h; cases h
    | ok c r =>
      rw [e] at h
      obtain ⟨h1, h2, h3⟩ := rd1_ok e
      obtain ⟨g1, g2, g3, g4⟩ := mayN_spec.1 h2
      have hc := hB c (List.mem_of_getElem? h1)
      have g5 : (c % 128).toNat * 2 ^ shift ≤ most - n := (Nat.le_div_iff_mul_le (Nat.two_pow_pos _)).1 (by omega)
      simp only at h
      by_cases hlt : c < 128
      · rw [if_pos hlt] at h
        injection h with h4 h5
        refine ⟨c.toNat, ?_, by omega, by omega, ?_, ?_⟩
        · have : (c % 128).toNat = c.toNat := by omega
          rw [← h4, this]
        · have e1 : cntF (f + 1) c.toNat = [c] := by rw [cntF, if_neg (by omega)]; congr 1; omega
          rw [e1]
          intro j x hx
          cases j with
          | zero => simp at hx; subst hx; exact h1
          | succ j => simp at hx
        · have e1 : cntF (f + 1) c.toNat = [c] := by rw [cntF, if_neg (by omega)]; congr 1; omega
          rw [e1, ← h5, h3]; rfl
      · rw [if_neg hlt] at h
        obtain ⟨m, m1, m2, m3, m4, m5⟩ := ih _ _ _ _ _ (by omega) h
        have m6 := m3 (by omega)
        have e1 : cntF (f + 1) ((c % 128).toNat + 128 * m) = c :: cntF f m := by
          rw [cntF, if_pos (by omega)]
          congr 1
          · omega
          · congr 1; omega
        refine ⟨(c % 128).toNat + 128 * m, ?_, m2, by omega, ?_, ?_⟩
        · rw [m1, Nat.pow_add, Nat.add_mul, show m * (2 ^ shift * 2 ^ 7) = 128 * m * 2 ^ shift from by rw [Nat.mul_comm (2 ^ shift), ← Nat.mul_assoc, Nat.mul_comm m]]
          omega
        · rw [e1]
          intro j x hx
          cases j with
          | zero => simp at hx; subst hx; exact h1
          | succ j =>
            simp at hx
            have := m4 j x hx
            rw [← this, h3]; congr 1; omega
        · rw [e1, m5, h3, List.length_cons]; omega
theorem cntF_fuel : ∀ (k n f : Nat), n < 128 ^ (k + 1) → cntF (k + 1 + f) n = cntF (k + 1) n
  | 0, n, f, h => by
    rw [Nat.add_right_comm, cntF, cntF, if_neg (by omega), if_neg (by omega)]
  | k + 1, n, f, h => by
    rw [show k + 1 + 1 + f = (k + 1 + f) + 1 from by omega, cntF, show cntF (k + 1 + 1) n = if n > 127 then ((n % 128 + 128 : Nat) : Int) :: cntF (k + 1) (n / 128) else [(n : Int)] from by rw [cntF]]
    split
    · rw [cntF_fuel k (n / 128) f (by rw [Nat.pow_succ] at h; exact Nat.div_lt_of_lt_mul (by omega))]
    · rfl
theorem rdNum_read {B : List Int} (hB : ∀ c ∈ B, 0 ≤ c ∧ c ≤ 255) {most m p q : Nat} (h2 : most < 2 ^ 64) (h : rdNum most B p = .ok m q) : m ≤ most ∧ At B (cnt m) p ∧ q = p + (cnt m).length := by
  obtain ⟨k, h3, h4, _, h5, h6⟩ := rdN_read B hB most 11 0 0 p m q (by omega) h
  have e : k = m := by omega
  subst e
  have e2 := cntF_fuel 9 k 1 (by omega)
  rw [show 9 + 1 + 1 = 11 from rfl] at e2
  rw [e2] at h5 h6
  exact ⟨h4, h5, h6⟩

end Go.Proofs.Ytdecgknnbegobaa.Cd

namespace Go.Proofs.Ytdecgknnbegobaa.Cd
open Go.RowKit Go.Lib Go.Maps Go.Proofs.Ytdecgknnbegobaa.D Go.Proofs.YtdecgknnbegobaaW.PrintWords Go.Proofs.YtdecgknnbegobaaW.PrintLast Go.Proofs.YtdecgknnbegobaaW.PrintMore
set_option linter.unusedVariables false
set_option linter.unusedSimpArgs false

/-- An op's name by its place. -/
def fnF (i : Int) : ByteArray := (rd_T44 formsL i).f0
theorem pl_fn (i : Int) (h : 0 ≤ i ∧ i < 19) : plF (fnF i) = i := by
  have key : ∀ k : Fin 19, plF (fnF ((k : Nat) : Int)) = ((k : Nat) : Int) := by decide +kernel
  have := key ⟨i.toNat, by omega⟩
  have e : ((i.toNat : Nat) : Int) = i := by omega
  simp only [e] at this
  exact this
theorem plF_range (op : ByteArray) : -1 ≤ plF op ∧ plF op < 19 := by
  have h19 := forms_len
  unfold plF plL
  split <;> omega
theorem pl_lt (op : ByteArray) : plF op < 19 := (plF_range op).2
theorem toList_inj {a b : ByteArray} (h : a.toList = b.toList) : a = b := by
  rw [Go.ByteArray.toList_eq, Go.ByteArray.toList_eq] at h
  cases a; cases b
  simp at h
  rw [h]
theorem fn_pl (op : ByteArray) (h : 0 ≤ plF op) : fnF (plF op) = op := by
  refine toList_inj ?_
  rw [← fm_op h]
  unfold fnF fmF fmL plF plL
  unfold plF plL at h
  split
  · rfl
  · rename_i hh
    rw [if_neg hh] at h
    omega

theorem str_bytes (s : ByteArray) : strOfNums (bytesOf s) = s := by
  have : ((s.data.toList.map fun b => (b.toNat : Int)).map fun n => UInt8.ofNat n.toNat) = s.data.toList := by
    rw [List.map_map]
    conv => rhs; rw [← List.map_id s.data.toList]
    apply List.map_congr_left
    intro b _
    simp
  unfold strOfNums bytesOf
  rw [this]
theorem bytes_str (l : List Int) (h : ∀ c ∈ l, 0 ≤ c ∧ c ≤ 255) : bytesOf (strOfNums l) = l := by
  unfold strOfNums bytesOf
  simp only [List.map_map]
  conv => rhs; rw [← List.map_id l]
  apply List.map_congr_left
  intro c hc
  have := h c hc
  simp
  omega
/-- A signed number back. -/
def uz (u : Nat) : Int := if u % 2 = 0 then (u / 2 : Nat) else -((u / 2 : Nat) : Int) - 1
theorem uz_zz (a : Int) : uz (zz a) = a := by unfold uz zz; split <;> split <;> omega
theorem zz_uz (u : Nat) : zz (uz u) = u := by unfold uz zz; split <;> split <;> omega
theorem uz_range {u : Nat} (h : u ≤ 18446744073709551615) : -9223372036854775808 ≤ uz u ∧ uz u ≤ 9223372036854775807 := by unfold uz; split <;> omega
def rdS (B : List Int) (p : Nat) : Rs Int := (rdNum 18446744073709551615 B p).bind fun u q => .ok (uz u) q
def rdT (n : Nat) (B : List Int) (p : Nat) : Rs ByteArray := if n > B.length - p then .bad B.length else .ok (strOfNums ((B.drop p).take n)) (p + n)
def rdI (B : List Int) (p : Nat) : Rs S39 :=
  (rd1 B (fun c => decide (c < 19)) p).bind fun i p => (rdS B p).bind fun a p => (rdS B p).bind fun b p => (rdS B p).bind fun c p => (rdNum 65536 B p).bind fun k p => (rdT k B p).bind fun s p => .ok (S39.mk (fnF i) a b c s) p
/-- So many, one behind the other. -/
def rdRep {α : Type} (r : List Int → Nat → Rs α) : Nat → List α → List Int → Nat → Rs (List α)
  | 0, acc, _, p => .ok acc p
  | k + 1, acc, B, p => (r B p).bind fun a p => rdRep r k (acc ++ [a]) B p
def rdV : List Int → List Int → Nat → Rs Unit
  | [], _, p => .ok () p
  | x :: xs, B, p => (rd1 B (fun c => decide (c = x)) p).bind fun _ p => rdV xs B p
def rdWs (B : List Int) (p : Nat) : Rs Int := (rdNum 8 B p).bind fun w p => .ok (w : Int) p
def rdP (B : List Int) (p : Nat) : Rs (List Int × Int × List S39) :=
  (rdV [86, 66, 49] B p).bind fun _ p => (rdNum 128 B p).bind fun m p => (rdRep rdWs m [] B p).bind fun ws p => (rdNum 256 B p).bind fun rg p => (rdNum 4096 B p).bind fun n p => (rdRep rdI n [] B p).bind fun xs p => .ok (ws, (rg : Int), xs) p

theorem bind_ok {α β : Type} {r : Rs α} {f : α → Nat → Rs β} {b : β} {q : Nat} (h : r.bind f = .ok b q) : ∃ a m, r = .ok a m ∧ f a m = .ok b q := by
  cases r with
  | ok a m => exact ⟨a, m, rfl, h⟩
  | bad m => cases h
theorem cuts_num (most : Nat) : Cuts (rdNum most) := cuts_rdN most 11 0 0
theorem cuts_S : Cuts rdS := cuts_bind (s := fun u _ q => .ok (uz u) q) (cuts_num _) (fun u => cuts_pure (uz u))
theorem cuts_T (n : Nat) : Cuts (rdT n) := fun B p => by
  have key : ∀ s q, rdT n B p = .ok s q → n ≤ B.length - p ∧ q = p + n ∧ s = strOfNums ((B.drop p).take n) := by
    intro s q h
    unfold rdT at h
    split at h
    · cases h
    · injection h with h1 h2
      exact ⟨by omega, h2.symm, h1.symm⟩
  constructor
  · intro s q h
    obtain ⟨h1, h2, _⟩ := key s q h
    omega
  · intro s q h cut hc h3 h4
    obtain ⟨h1, h2, _⟩ := key s q h
    unfold rdT
    have e : (B.take cut).length = cut := by simp [List.length_take]; omega
    rw [e, if_pos (by omega)]
  · intro s q h cut hc h3
    obtain ⟨h1, h2, h5⟩ := key s q h
    unfold rdT
    have e : (B.take cut).length = cut := by simp [List.length_take]; omega
    rw [e, if_neg (by omega), h5, h2]
    congr 2
    rw [List.drop_take, List.take_take]
    congr 1
    omega
theorem cuts_I : Cuts rdI :=
  cuts_bind (s := fun i B p => (rdS B p).bind fun a p => (rdS B p).bind fun b p => (rdS B p).bind fun c p => (rdNum 65536 B p).bind fun k p => (rdT k B p).bind fun s p => .ok (S39.mk (fnF i) a b c s) p) (cuts_rd1 _) fun i =>
  cuts_bind (s := fun a B p => (rdS B p).bind fun b p => (rdS B p).bind fun c p => (rdNum 65536 B p).bind fun k p => (rdT k B p).bind fun s p => .ok (S39.mk (fnF i) a b c s) p) cuts_S fun a =>
  cuts_bind (s := fun b B p => (rdS B p).bind fun c p => (rdNum 65536 B p).bind fun k p => (rdT k B p).bind fun s p => .ok (S39.mk (fnF i) a b c s) p) cuts_S fun b =>
  cuts_bind (s := fun c B p => (rdNum 65536 B p).bind fun k p => (rdT k B p).bind fun s p => .ok (S39.mk (fnF i) a b c s) p) cuts_S fun c =>
  cuts_bind (s := fun k B p => (rdT k B p).bind fun s p => .ok (S39.mk (fnF i) a b c s) p) (cuts_num _) fun k =>
  cuts_bind (s := fun s _ p => .ok (S39.mk (fnF i) a b c s) p) (cuts_T k) fun s => cuts_pure _
theorem cuts_rep {α : Type} {r : List Int → Nat → Rs α} (hr : Cuts r) : ∀ (k : Nat) (acc : List α), Cuts (rdRep r k acc)
  | 0, acc => cuts_pure acc
  | k + 1, acc => cuts_bind (s := fun a B p => rdRep r k (acc ++ [a]) B p) hr fun a => cuts_rep hr k (acc ++ [a])
theorem cuts_V : ∀ l, Cuts (rdV l)
  | [] => cuts_pure ()
  | x :: xs => cuts_bind (s := fun _ B p => rdV xs B p) (cuts_rd1 _) fun _ => cuts_V xs
theorem cuts_W : Cuts rdWs := cuts_bind (s := fun (w : Nat) _ p => .ok (w : Int) p) (cuts_num _) fun w => cuts_pure _
theorem cuts_P : Cuts rdP :=
  cuts_bind (s := fun _ B p => (rdNum 128 B p).bind fun m p => (rdRep rdWs m [] B p).bind fun ws p => (rdNum 256 B p).bind fun rg p => (rdNum 4096 B p).bind fun n p => (rdRep rdI n [] B p).bind fun xs p => .ok (ws, (rg : Int), xs) p) (cuts_V _) fun _ =>
  cuts_bind (s := fun m B p => (rdRep rdWs m [] B p).bind fun ws p => (rdNum 256 B p).bind fun rg p => (rdNum 4096 B p).bind fun n p => (rdRep rdI n [] B p).bind fun xs p => .ok (ws, (rg : Int), xs) p) (cuts_num _) fun m =>
  cuts_bind (s := fun ws B p => (rdNum 256 B p).bind fun rg p => (rdNum 4096 B p).bind fun n p => (rdRep rdI n [] B p).bind fun xs p => .ok (ws, (rg : Int), xs) p) (cuts_rep cuts_W m []) fun ws =>
  cuts_bind (s := fun (rg : Nat) B p => (rdNum 4096 B p).bind fun n p => (rdRep rdI n [] B p).bind fun xs p => .ok (ws, (rg : Int), xs) p) (cuts_num _) fun rg =>
  cuts_bind (s := fun n B p => (rdRep rdI n [] B p).bind fun xs p => .ok (ws, (rg : Int), xs) p) (cuts_num _) fun n =>
  cuts_bind (s := fun xs _ p => .ok (ws, (rg : Int), xs) p) (cuts_rep cuts_I n []) fun xs => cuts_pure _

/-! What was written is read. -/
theorem rdS_write {B : List Int} {a : Int} {p : Nat} (ha : -9223372036854775808 ≤ a ∧ a ≤ 9223372036854775807) (h : At B (cnt (zz a)) p) : rdS B p = .ok a (p + (cnt (zz a)).length) := by
  unfold rdS
  have := zz_lt ha
  rw [rdNum_write (by omega) (by omega) h]
  show Rs.ok (uz (zz a)) _ = _
  rw [uz_zz]
theorem rdT_write {B : List Int} {s : ByteArray} {p : Nat} (h : At B (bytesOf s) p) : rdT s.size B p = .ok s (p + s.size) := by
  have hl := bytesOf_length s
  have h1 : p + s.size ≤ B.length ∨ s.size = 0 := by
    rcases Nat.eq_zero_or_pos s.size with e | e
    · exact .inr e
    · left
      obtain ⟨c, hc⟩ : ∃ c, (bytesOf s)[s.size - 1]? = some c := ⟨_, List.getElem?_eq_getElem (by omega)⟩
      have := (List.getElem?_eq_some_iff.1 (h _ c hc)).1
      omega
  unfold rdT
  rw [if_neg (by omega)]
  congr 1
  have : (B.drop p).take s.size = bytesOf s := by
    apply List.ext_getElem?
    intro j
    rcases Nat.lt_or_ge j s.size with hj | hj
    · rw [List.getElem?_take_of_lt hj, List.getElem?_drop]
      have e := List.getElem?_eq_getElem (l := bytesOf s) (i := j) (by omega)
      rw [e]
      exact h j _ e
    · rw [List.getElem?_eq_none (by simp; omega), List.getElem?_eq_none (by omega)]
  rw [this, str_bytes]
theorem At.head {B l : List Int} {x : Int} {p : Nat} (h : At B (x :: l) p) : B[p]? = some x := h 0 x (by simp)
theorem At.tail {B l : List Int} {x : Int} {p : Nat} (h : At B (x :: l) p) : At B l (p + 1) := fun j c hj => by
  have := h (j + 1) c (by simpa using hj)
  rw [← this]; congr 1; omega
/-- What an instruction must be to be read. -/
structure InsOk (x : S39) : Prop where
  pl : 0 ≤ plF x.f0
  a : -9223372036854775808 ≤ x.f1 ∧ x.f1 ≤ 9223372036854775807
  b : -9223372036854775808 ≤ x.f2 ∧ x.f2 ≤ 9223372036854775807
  c : -9223372036854775808 ≤ x.f3 ∧ x.f3 ≤ 9223372036854775807
  s : x.f4.size ≤ 65536
theorem rdI_write {B : List Int} {x : S39} {p : Nat} (hx : InsOk x) (h : At B (encI x) p) : rdI B p = .ok x (p + (encI x).length) := by
  unfold encI at h ⊢
  have hp := h.head
  have h1 := h.tail
  have h2 := h1.right
  have h3 := h2.right
  have h4 := h3.right
  have h5 := h4.right
  unfold rdI
  rw [rd1_hit hp (by simpa using pl_lt x.f0)]
  simp only [Rs.bind]
  rw [rdS_write hx.a h1.left]
  simp only
  rw [rdS_write hx.b h2.left]
  simp only
  rw [rdS_write hx.c h3.left]
  simp only
  rw [rdNum_write hx.s (by omega) h4.left]
  simp only
  rw [rdT_write h5]
  simp only
  rw [fn_pl _ hx.pl]
  congr 1
  simp only [List.length_cons, List.length_append, bytesOf_length]
  omega
theorem rep_write {α : Type} {r : List Int → Nat → Rs α} {enc : α → List Int} {B : List Int} : ∀ (l : List α) (acc : List α) (p : Nat), (∀ a ∈ l, ∀ p, At B (enc a) p → r B p = .ok a (p + (enc a).length)) → At B (l.flatMap enc) p → rdRep r l.length acc B p = .ok (acc ++ l) (p + (l.flatMap enc).length)
  | [], acc, p, _, _ => by simp [rdRep]
  | a :: l, acc, p, h, hat => by
    rw [List.flatMap_cons] at hat
    rw [List.length_cons, rdRep, h a (by simp) p hat.left]
    simp only [Rs.bind]
    rw [rep_write l (acc ++ [a]) _ (fun b hb => h b (by simp [hb])) hat.right]
    simp only [List.append_assoc, List.singleton_append, List.flatMap_cons, List.length_append]
    congr 1
    omega
theorem cnt_small {w : Nat} (h : w ≤ 127) : cnt w = [(w : Int)] := by unfold cnt cntF; rw [if_neg (by omega)]
theorem ws_write {B : List Int} {ws : List Int} {p : Nat} (hw : ∀ w ∈ ws, 0 ≤ w ∧ w ≤ 8) (h : At B ws p) : rdRep rdWs ws.length [] B p = .ok ws (p + ws.length) := by
  have e : ws.flatMap (fun w => cnt w.toNat) = ws := by
    clear h
    induction ws with
    | nil => rfl
    | cons w ws ih =>
      have h1 := hw w (by simp)
      rw [List.flatMap_cons, ih fun v hv => hw v (by simp [hv]), cnt_small (by omega)]
      simp
      omega
  have := rep_write (r := rdWs) (enc := fun w => cnt w.toNat) (B := B) ws [] p (by
    intro a ha q hq
    have h1 := hw a ha
    unfold rdWs
    rw [rdNum_write (by omega) (by omega) hq]
    simp only [Rs.bind]
    congr 1
    omega) (by rw [e]; exact h)
  rw [e] at this
  simpa using this
/-- What a program must be to be read. -/
structure ProgOk (ws : List Int) (rg : Int) (xs : List S39) : Prop where
  m : ws.length ≤ 128
  w : ∀ w ∈ ws, 0 ≤ w ∧ w ≤ 8
  rg : 0 ≤ rg ∧ rg ≤ 256
  n : xs.length ≤ 4096
  x : ∀ x ∈ xs, InsOk x
theorem rdP_write {ws : List Int} {rg : Int} {xs : List S39} (h : ProgOk ws rg xs) : rdP (encL ws rg xs) 0 = .ok (ws, rg, xs) (encL ws rg xs).length := by
  have h0 : At (encL ws rg xs) (encL ws rg xs) 0 := fun j c hj => by rw [Nat.zero_add]; exact hj
  obtain ⟨B, hB⟩ : ∃ B, B = encL ws rg xs := ⟨_, rfl⟩
  have hl : (encL ws rg xs).length = 3 + ((cnt ws.length).length + (ws.length + ((cnt rg.toNat).length + ((cnt xs.length).length + (encX xs).length)))) := by
    unfold encL; simp only [List.length_append, List.length_cons, List.length_nil]
  rw [hl]
  rw [← hB] at h0 ⊢
  have h0' : At B (86 :: 66 :: 49 :: (cnt ws.length ++ (ws ++ (cnt rg.toNat ++ (cnt xs.length ++ encX xs))))) 0 := by rw [hB] at h0 ⊢; exact h0
  have v1 := h0'.head
  have v2 := h0'.tail.head
  have v3 := h0'.tail.tail.head
  have h1 := h0'.tail.tail.tail
  have h2 := h1.right
  have h3 := h2.right
  have h4 := h3.right
  have h5 := h4.right
  unfold rdP rdV rdV rdV rdV
  rw [rd1_hit v1 (by decide)]
  simp only [Rs.bind]
  rw [rd1_hit v2 (by decide)]
  simp only
  rw [rd1_hit v3 (by decide)]
  simp only
  rw [rdNum_write h.m (by omega) h1.left]
  simp only
  rw [ws_write h.w h2.left]
  simp only
  rw [rdNum_write (by have := h.rg; omega) (by omega) h3.left]
  simp only
  rw [rdNum_write h.n (by omega) h4.left]
  simp only
  rw [rep_write (r := rdI) (enc := encI) xs [] _ (fun a ha q hq => rdI_write (h.x a ha) hq) h5]
  simp only [List.nil_append]
  have e : ((rg.toNat : Nat) : Int) = rg := by have := h.rg; omega
  rw [e]
  congr 1
  unfold encX
  omega
/-- A beginning is refused at its end. -/
theorem rdP_cut {ws : List Int} {rg : Int} {xs : List S39} (h : ProgOk ws rg xs) (cut : Nat) (hc : cut < (encL ws rg xs).length) : rdP ((encL ws rg xs).take cut) 0 = .bad cut :=
  (cuts_P _ 0).short _ _ (rdP_write h) cut (by omega) (by omega) hc

/-! What is read has just these bytes. -/
theorem At.nil (B : List Int) (p : Nat) : At B [] p := fun j c h => by simp at h
theorem At.append {B l m : List Int} {p : Nat} (h : At B l p) (g : At B m (p + l.length)) : At B (l ++ m) p := fun j c hj => by
  rcases Nat.lt_or_ge j l.length with hl | hl
  · rw [List.getElem?_append_left hl] at hj; exact h j c hj
  · rw [List.getElem?_append_right hl] at hj
    have := g _ c hj
    rw [← this]; congr 1; omega
theorem At.cons {B l : List Int} {x : Int} {p : Nat} (h : B[p]? = some x) (g : At B l (p + 1)) : At B (x :: l) p := fun j c hj => by
  cases j with
  | zero => simp at hj; subst hj; exact h
  | succ j =>
    have := g j c (by simpa using hj)
    rw [← this]; congr 1; omega
theorem rdS_read {B : List Int} (hB : ∀ c ∈ B, 0 ≤ c ∧ c ≤ 255) {a : Int} {p q : Nat} (h : rdS B p = .ok a q) : (-9223372036854775808 ≤ a ∧ a ≤ 9223372036854775807) ∧ At B (cnt (zz a)) p ∧ q = p + (cnt (zz a)).length := by
  obtain ⟨u, m, h1, h2⟩ := bind_ok h
  injection h2 with h3 h4
  obtain ⟨g1, g2, g3⟩ := rdNum_read hB (by omega) h1
  subst h3 h4
  rw [zz_uz]
  exact ⟨uz_range g1, g2, g3⟩
theorem rdT_read {B : List Int} (hB : ∀ c ∈ B, 0 ≤ c ∧ c ≤ 255) {n : Nat} {s : ByteArray} {p q : Nat} (hp : p ≤ B.length) (h : rdT n B p = .ok s q) : s.size = n ∧ At B (bytesOf s) p ∧ q = p + n := by
  unfold rdT at h
  split at h
  · cases h
  · rename_i hn
    injection h with h1 h2
    have hl : ((B.drop p).take n).length = n := by simp; omega
    subst h1
    refine ⟨by rw [strOfNums_size, hl], ?_, h2.symm⟩
    rw [bytes_str _ fun c hc => hB c (List.mem_of_mem_drop (List.mem_of_mem_take hc))]
    intro j c hj
    have hj' := (List.getElem?_eq_some_iff.1 hj).1
    rw [List.getElem?_take_of_lt (by omega), List.getElem?_drop] at hj
    exact hj
theorem cuts_le {α : Type} {r : List Int → Nat → Rs α} (h : Cuts r) {B : List Int} {p q : Nat} {a : α} (e : r B p = .ok a q) (hp : p ≤ B.length) : q ≤ B.length := ((h B p).le a q e).2 hp
theorem rdI_read {B : List Int} (hB : ∀ c ∈ B, 0 ≤ c ∧ c ≤ 255) {x : S39} {p q : Nat} (hp : p ≤ B.length) (h : rdI B p = .ok x q) : InsOk x ∧ At B (encI x) p ∧ q = p + (encI x).length := by
  obtain ⟨i, p1, e1, h⟩ := bind_ok h
  obtain ⟨a, p2, e2, h⟩ := bind_ok h
  obtain ⟨b, p3, e3, h⟩ := bind_ok h
  obtain ⟨c, p4, e4, h⟩ := bind_ok h
  obtain ⟨k, p5, e5, h⟩ := bind_ok h
  obtain ⟨s, p6, e6, h⟩ := bind_ok h
  injection h with h7 h8
  obtain ⟨f1, f2, f3⟩ := rd1_ok e1
  have fi := hB i (List.mem_of_getElem? f1)
  have fi2 : i < 19 := by simpa using f2
  have l1 := cuts_le (cuts_rd1 _) e1 hp
  have l2 := cuts_le cuts_S e2 l1
  have l3 := cuts_le cuts_S e3 l2
  have l4 := cuts_le cuts_S e4 l3
  have l5 := cuts_le (cuts_num _) e5 l4
  obtain ⟨a1, a2, a3⟩ := rdS_read hB e2
  obtain ⟨b1, b2, b3⟩ := rdS_read hB e3
  obtain ⟨c1, c2, c3⟩ := rdS_read hB e4
  obtain ⟨k1, k2, k3⟩ := rdNum_read hB (by omega) e5
  obtain ⟨s1, s2, s3⟩ := rdT_read hB l5 e6
  have hpl := pl_fn i ⟨fi.1, fi2⟩
  subst h7 s1
  refine ⟨⟨by simp only [hpl]; exact fi.1, a1, b1, c1, k1⟩, ?_, ?_⟩
  · unfold encI
    simp only [hpl]
    refine .cons f1 ?_
    rw [← f3]
    refine .append a2 ?_
    rw [← a3]
    refine .append b2 ?_
    rw [← b3]
    refine .append c2 ?_
    rw [← c3]
    refine .append k2 ?_
    rw [← k3]
    exact s2
  · unfold encI
    simp only [List.length_cons, List.length_append, bytesOf_length]
    omega
theorem rep_read {α : Type} {r : List Int → Nat → Rs α} {enc : α → List Int} {ok : α → Prop} {B : List Int} (hc : Cuts r) (hr : ∀ a p q, p ≤ B.length → r B p = .ok a q → ok a ∧ At B (enc a) p ∧ q = p + (enc a).length) : ∀ (k : Nat) (acc l : List α) (p q : Nat), p ≤ B.length → rdRep r k acc B p = .ok l q → ∃ m, l = acc ++ m ∧ m.length = k ∧ (∀ a ∈ m, ok a) ∧ At B (m.flatMap enc) p ∧ q = p + (m.flatMap enc).length
  | 0, acc, l, p, q, _, h => by
    unfold rdRep at h
    injection h with h1 h2
    exact ⟨[], by simp [h1], rfl, by simp, At.nil _ _, by simp [h2]⟩
  | k + 1, acc, l, p, q, hp, h => by
    obtain ⟨a, p1, e1, h⟩ := bind_ok h
    obtain ⟨a1, a2, a3⟩ := hr a p p1 hp e1
    obtain ⟨m, m1, m2, m3, m4, m5⟩ := rep_read hc hr k (acc ++ [a]) l p1 q (cuts_le hc e1 hp) h
    refine ⟨a :: m, by simp [m1], by simp [m2], ?_, ?_, ?_⟩
    · intro b hb
      rcases List.mem_cons.1 hb with rfl | hb
      · exact a1
      · exact m3 b hb
    · rw [List.flatMap_cons]
      refine .append a2 ?_
      rw [← a3]; exact m4
    · rw [m5, a3, List.flatMap_cons, List.length_append]; omega
theorem rdWs_read {B : List Int} (hB : ∀ c ∈ B, 0 ≤ c ∧ c ≤ 255) {w : Int} {p q : Nat} (h : rdWs B p = .ok w q) : (0 ≤ w ∧ w ≤ 8) ∧ At B [w] p ∧ q = p + [w].length := by
  obtain ⟨u, m, h1, h2⟩ := bind_ok h
  injection h2 with h3 h4
  obtain ⟨g1, g2, g3⟩ := rdNum_read hB (by omega) h1
  subst h3 h4
  rw [cnt_small (by omega)] at g2 g3
  exact ⟨by omega, g2, g3⟩
theorem rdV_read : ∀ (l : List Int) {B : List Int} {p q : Nat} {u : Unit}, rdV l B p = .ok u q → At B l p ∧ q = p + l.length
  | [], B, p, q, u, h => by
    unfold rdV at h
    injection h with _ h2
    exact ⟨At.nil _ _, by simp [h2]⟩
  | x :: l, B, p, q, u, h => by
    obtain ⟨c, p1, e1, h⟩ := bind_ok h
    obtain ⟨f1, f2, f3⟩ := rd1_ok e1
    obtain ⟨g1, g2⟩ := rdV_read l h
    have : c = x := by simpa using f2
    subst this
    refine ⟨.cons f1 (by rw [← f3]; exact g1), ?_⟩
    rw [g2, f3, List.length_cons]; omega
theorem rdP_read {B : List Int} (hB : ∀ c ∈ B, 0 ≤ c ∧ c ≤ 255) {ws : List Int} {rg : Int} {xs : List S39} (h : rdP B 0 = .ok (ws, rg, xs) B.length) : ProgOk ws rg xs ∧ B = encL ws rg xs := by
  obtain ⟨_, p1, e1, h⟩ := bind_ok h
  obtain ⟨m, p2, e2, h⟩ := bind_ok h
  obtain ⟨ws', p3, e3, h⟩ := bind_ok h
  obtain ⟨rg', p4, e4, h⟩ := bind_ok h
  obtain ⟨n, p5, e5, h⟩ := bind_ok h
  obtain ⟨xs', p6, e6, h⟩ := bind_ok h
  injection h with h7 h8
  injection h7 with h9 h10
  injection h10 with h10 h11
  obtain ⟨a1, a2⟩ := rdV_read _ e1
  have l1 := cuts_le (cuts_V _) e1 (Nat.zero_le _)
  have l2 := cuts_le (cuts_num _) e2 l1
  have l3 := cuts_le (cuts_rep cuts_W _ _) e3 l2
  have l4 := cuts_le (cuts_num _) e4 l3
  have l5 := cuts_le (cuts_num _) e5 l4
  obtain ⟨b1, b2, b3⟩ := rdNum_read hB (by omega) e2
  obtain ⟨w, w1, w2, w3, w4, w5⟩ := rep_read (enc := fun w : Int => [w]) (ok := fun w => 0 ≤ w ∧ w ≤ 8) cuts_W (fun a p q _ hh => rdWs_read hB hh) m [] ws' p2 p3 l2 e3
  have ew : w.flatMap (fun w : Int => [w]) = w := by simp
  rw [ew] at w4 w5
  obtain ⟨c1, c2, c3⟩ := rdNum_read hB (by omega) e4
  obtain ⟨d1, d2, d3⟩ := rdNum_read hB (by omega) e5
  obtain ⟨x, x1, x2, x3, x4, x5⟩ := rep_read (enc := encI) (ok := InsOk) cuts_I (fun a p q hp hh => rdI_read hB hp hh) n [] xs' p5 p6 l5 e6
  rw [List.nil_append] at w1 x1
  subst w1 x1 h9 h10 h11
  have er : ((rg' : Int)).toNat = rg' := by omega
  refine ⟨⟨by omega, w3, by omega, by omega, x3⟩, ?_⟩
  have hat : At B (encL ws' (rg' : Int) xs') 0 := by
    unfold encL
    rw [er]
    refine .append a1 ?_
    rw [← a2, w2, x2]
    refine .append b2 ?_
    rw [← b3]
    refine .append w4 ?_
    rw [← w5]
    refine .append c2 ?_
    rw [← c3]
    refine .append d2 ?_
    rw [← d3]
    exact x4
  have hlen : B.length = (encL ws' (rg' : Int) xs').length := by
    unfold encL encX
    rw [er, w2, x2]
    simp only [List.length_append]
    rw [← h8, x5, d3, c3, w5, b3, a2]
    omega
  apply List.ext_getElem?
  intro j
  rcases Nat.lt_or_ge j B.length with hj | hj
  · have e := List.getElem?_eq_getElem (l := encL ws' (rg' : Int) xs') (i := j) (by omega)
    rw [e]
    have := hat j _ e
    rw [Nat.zero_add] at this
    exact this
  · rw [List.getElem?_eq_none hj, List.getElem?_eq_none (by omega)]

end Go.Proofs.Ytdecgknnbegobaa.Cd

namespace Go.Proofs.Ytdecgknnbegobaa.Cd
open Go.RowKit Go.Lib Go.Maps Go.Proofs.Ytdecgknnbegobaa.D Go.Proofs.YtdecgknnbegobaaW.PrintWords Go.Proofs.YtdecgknnbegobaaW.PrintLast Go.Proofs.YtdecgknnbegobaaW.PrintMore
set_option linter.unusedVariables false
set_option linter.unusedSimpArgs false

/-- The bytes that are read: they came in. -/
structure Bs (W0 : World) (A : Option Addr) (c : Nat) (B : List Int) : Prop where
  C : Kd.C (Kd.int .u8) W0 A B.length B
  le : B.length ≤ c
  lim : c ≤ 9223372036854775807
/-- The reader at a place. -/
structure Rdr (W0 w : World) (br : Nat) (A : Option Addr) (c : Nat) (B : List Int) (p : Nat) : Prop where
  since : Since W0 w
  new : W0.heap.size ≤ br
  blk : w.heap[br]? = some (.cells #[.slice A B.length c, .int .i64 (p : Int)] 50 (0, 0))
  le : p ≤ B.length
/-- How a wrong byte ends the reading. -/
def wrongE : PanicEntry := { v := .iface 52 (.agg #[]), recovered := false }
/-- What a call of a reader answers. -/
def RdEnd {α : Type} (W0 w : World) (br : Nat) (A : Option Addr) (c : Nat) (B : List Int) (mk : α → Value) (r : Rs α) (e : Ending) (w' : World) : Prop :=
  Kept w w' (fun k => k = br) ∧ match r with
  | .ok a q => e = .returned (mk a) ∧ Rdr W0 w' br A c B q
  | .bad q => e = .panicked [wrongE] ∧ Rdr W0 w' br A c B q
theorem Rdr.c0 {W0 w : World} {br : Nat} {A : Option Addr} {c : Nat} {B : List Int} {p : Nat} (h : Rdr W0 w br A c B p) : w.cell? ⟨br, 0, none⟩ = some (.slice A B.length c) := (cell_of_heap h.blk 0).trans rfl
theorem Rdr.c1 {W0 w : World} {br : Nat} {A : Option Addr} {c : Nat} {B : List Int} {p : Nat} (h : Rdr W0 w br A c B p) : w.cell? ⟨br, 1, none⟩ = some (.int .i64 (p : Int)) := (cell_of_heap h.blk 1).trans rfl
theorem Rdr.free {W0 w : World} {br : Nat} {A : Option Addr} {c : Nat} {B : List Int} {p : Nat} (h : Rdr W0 w br A c B p) (j : Nat) : w.frozen? ⟨br, j, none⟩ = false := free_of_heap h.blk j
theorem Rdr.go {W0 w w' : World} {br : Nat} {A : Option Addr} {c : Nat} {B : List Int} {p : Nat} (h : Rdr W0 w br A c B p) (hs : Since w w') : Rdr W0 w' br A c B p := ⟨h.since.trans hs, h.new, Cd.blk hs.b h.blk, h.le⟩
/-- The place is stored. -/
theorem Rdr.store {W0 w : World} {br : Nat} {A : Option Addr} {c : Nat} {B : List Int} {p : Nat} (h : Rdr W0 w br A c B p) (q : Nat) (hq : q ≤ B.length) : Rdr W0 (w.setCell ⟨br, 1, none⟩ (.int .i64 (q : Int))) br A c B q :=
  ⟨h.since.set h.new _, h.new, by have := Go.Joins.block_setCell (i := 1) h.blk (.int .i64 (q : Int)); exact this, hq⟩
theorem kept_set (w : World) (br j : Nat) (v : Value) : Kept w (w.setCell ⟨br, j, none⟩ v) (fun k => k = br) := by
  refine ⟨by simp, fun i hi hn => ?_⟩
  exact Below.heap_setCell _ _ _ _ hn
theorem Kept.sinceL {w w1 w2 : World} {S : Nat → Prop} (h : Since w w1) (k : Kept w1 w2 S) : Kept w w2 S := ⟨Nat.le_trans h.b.size k.1, fun i hi hn => (k.2 i (Nat.lt_of_lt_of_le hi h.b.size) hn).trans (h.b.block i hi)⟩
theorem Kept.sinceR {w w1 w2 : World} {S : Nat → Prop} (k : Kept w w1 S) (h : Since w1 w2) : Kept w w2 S := ⟨Nat.le_trans k.1 h.b.size, fun i hi hn => (h.b.block i (Nat.lt_of_lt_of_le hi k.1)).trans (k.2 i hi hn)⟩
theorem Bs.at {W0 w : World} {br : Nat} {A : Option Addr} {c : Nat} {B : List Int} {p : Nat} (hB : Bs W0 A c B) (h : Rdr W0 w br A c B p) (i : Nat) (hi : i < B.length) : ∃ ad, A = some ad ∧ w.cell? (ad.add i) = some (.int .u8 B[i]) := by
  obtain ⟨ad, e, hc⟩ := Kd.at_int (Kd.C_below hB.C h.since.b) (i : Int) (by omega) (by omega)
  refine ⟨ad, e, ?_⟩
  rw [show ((i : Int)).toNat = i from by omega] at hc
  rw [hc]
  congr 1
  simp [rd, hi]

end Go.Proofs.Ytdecgknnbegobaa.Cd

namespace Go.Proofs.Ytdecgknnbegobaa.Cd
open Go.RowKit Go.Lib Go.Maps Go.Proofs.Ytdecgknnbegobaa.D Go.Proofs.YtdecgknnbegobaaW.PrintWords Go.Proofs.YtdecgknnbegobaaW.PrintLast Go.Proofs.YtdecgknnbegobaaW.PrintMore
set_option linter.unusedVariables false
set_option linter.unusedSimpArgs false

set_option maxHeartbeats 4000000 in
set_option maxRecDepth 100000 in
theorem byte1_end {W0 w : World} {br : Nat} {A : Option Addr} {c : Nat} {B : List Int} (p : Nat) (hB : Bs W0 A c B) (h : Rdr W0 w br A c B p) (k : FuncId) (v1 : Value) (hp : ¬ p < B.length) :
    Calls Try.prog 27 #[.pointer (some ⟨br, 0, none⟩), .func (.func k) #[] #[v1]] w fun e w' => e = .panicked [wrongE] ∧ Since w w' := by
  have c0 := h.c0
  have c1 := h.c1
  have HH := Aside0.mk h
  obtain ⟨n, hn⟩ : ∃ n, n = B.length := ⟨_, rfl⟩
  rw [← hn] at c0 hp
  have hge : decide (n ≤ p) = true := decide_eq_true (by omega)
  clear h hB hn hp
  go_enter Try.func27, Try.ntmps27
  go_wp2_with fail
  go_quiet (fail)
  go_wp2
  exact ⟨rfl, rfl, by repeat (first | exact Since.refl _ | refine Since.drewN ?_ _ | refine Since.drew ?_)⟩

set_option maxHeartbeats 4000000 in
set_option maxRecDepth 100000 in
theorem byte1_bad {W0 w : World} {br : Nat} {A : Option Addr} {c : Nat} {B : List Int} (p : Nat) (hB : Bs W0 A c B) (h : Rdr W0 w br A c B p) (k : FuncId) (v1 : Value) (hp : p < B.length) (hE : ∀ (args : Array Value) (w : World), (callFunc k args).run Try.prog w = .ok (.enter k args) w) (hF : ∀ w1, Since w w1 → Calls Try.prog k #[.int .u8 B[p], v1] w1 fun e w' => e = .returned (.bool false) ∧ w' = w1) :
    Calls Try.prog 27 #[.pointer (some ⟨br, 0, none⟩), .func (.func k) #[] #[v1]] w fun e w' => e = .panicked [wrongE] ∧ Since w w' := by
  have c0 := h.c0
  have c1 := h.c1
  obtain ⟨ad, rfl, hc⟩ := hB.at h p hp
  obtain ⟨x, hx⟩ : ∃ x, x = B[p] := ⟨_, rfl⟩
  rw [← hx] at hc hF
  have HF := Aside0.mk hF
  obtain ⟨n, hn⟩ : ∃ n, n = B.length := ⟨_, rfl⟩
  rw [← hn] at c0
  have hge : decide (n ≤ p) = false := decide_eq_false (by omega)
  have hp1 : (p : Int) < (n : Int) := by omega
  clear h hB hx hn hF hp
  go_enter Try.func27, Try.ntmps27
  go_wp2_with fail
  go_quiet (first | (with_reducible refine (HF.out _ (by repeat (first | exact Since.refl _ | refine Since.drewN ?_ _ | refine Since.drew ?_))).mono ?_; rintro e w' ⟨rfl, rfl⟩; first | exact ⟨rfl, 0, rfl⟩ | exact ⟨rfl, _, rfl⟩ | exact ⟨rfl, _, World.drewN_drewN _ _ _⟩))
  go_wp2
  exact ⟨rfl, rfl, by repeat (first | exact Since.refl _ | refine Since.drewN ?_ _ | refine Since.drew ?_)⟩

set_option maxHeartbeats 4000000 in
set_option maxRecDepth 100000 in
theorem byte1_yes {W0 w : World} {br : Nat} {A : Option Addr} {c : Nat} {B : List Int} (p : Nat) (hB : Bs W0 A c B) (h : Rdr W0 w br A c B p) (k : FuncId) (v1 : Value) (hp : p < B.length) (hE : ∀ (args : Array Value) (w : World), (callFunc k args).run Try.prog w = .ok (.enter k args) w) (hF : ∀ w1, Since w w1 → Calls Try.prog k #[.int .u8 B[p], v1] w1 fun e w' => e = .returned (.bool true) ∧ w' = w1) :
    Calls Try.prog 27 #[.pointer (some ⟨br, 0, none⟩), .func (.func k) #[] #[v1]] w fun e w' => e = .returned (.int .u8 B[p]) ∧ Kept w w' (fun k => k = br) ∧ Rdr W0 w' br A c B (p + 1) := by
  have c0 := h.c0
  have c1 := h.c1
  have f1 := h.free 1
  obtain ⟨ad, rfl, hc⟩ := hB.at h p hp
  have HH := Aside0.mk h
  have HP := Aside0.mk hp
  have HA := Aside0.mk (fun w' (h' : Rdr W0 w' br (some ad) c B (p + 1)) => hB.at h' p hp)
  obtain ⟨x, hx⟩ : ∃ x, x = B[p] := ⟨_, rfl⟩
  rw [← hx] at hc hF HA ⊢
  have HF := Aside0.mk hF
  obtain ⟨n, hn⟩ : ∃ n, n = B.length := ⟨_, rfl⟩
  have hn1 : n ≤ 9223372036854775807 := by have := hB.le; have := hB.lim; omega
  rw [← hn] at c0
  have HN := Aside0.mk hn
  have hge : decide (n ≤ p) = false := decide_eq_false (by omega)
  have hp1 : (p : Int) < (n : Int) := by omega
  have hw1 : wrap64 ((p : Int) + 1) = (p : Int) + 1 := by unfold wrap64; omega
  have hw2 : wrap64 ((p : Int) + 1 - 1) = (p : Int) := by unfold wrap64; omega
  clear h hB hx hn hF hp
  go_enter Try.func27, Try.ntmps27
  go_wp2_with fail
  go_quiet (first | (with_reducible refine (HF.out _ (by repeat (first | exact Since.refl _ | refine Since.drewN ?_ _ | refine Since.drew ?_))).mono ?_; rintro e w' ⟨rfl, rfl⟩; first | exact ⟨rfl, 0, rfl⟩ | exact ⟨rfl, _, rfl⟩ | exact ⟨rfl, _, World.drewN_drewN _ _ _⟩))
  go_wp2_with fail
  obtain ⟨w5, hw5⟩ : ∃ w5, w5 = (w.drewN nq).setCell ⟨br, 1, none⟩ (.int .i64 ((p : Int) + 1)) := ⟨_, rfl⟩
  have hR := (HH.out.go ((Since.refl w).drewN nq)).store (p + 1) HP.out
  have hK := Kept.sinceL ((Since.refl w).drewN nq) (kept_set (w.drewN nq) br 1 (.int .i64 ((p : Int) + 1)))
  rw [show ((p + 1 : Nat) : Int) = (p : Int) + 1 from by omega, ← hw5] at hR
  rw [← hw5] at hK ⊢
  obtain ⟨_, e, hc5⟩ := HA.out w5 hR
  injection e with e
  subst e
  have d0 := hR.c0
  have d1 := hR.c1
  rw [← HN.out] at d0
  rw [show ((p + 1 : Nat) : Int) = (p : Int) + 1 from by omega] at d1
  have HR5 := Aside0.mk hR
  have HK5 := Aside0.mk hK
  clear hw5 hR hK c0 c1 hc f1
  go_quiet (fail)
  go_wp2
  go_ret
  exact ⟨rfl, Kept.sinceR HK5.out (by repeat (first | exact Since.refl _ | refine Since.drewN ?_ _ | refine Since.drew ?_)), HR5.out.go (by repeat (first | exact Since.refl _ | refine Since.drewN ?_ _ | refine Since.drew ?_))⟩

set_option maxHeartbeats 4000000 in
set_option maxRecDepth 100000 in
theorem byte2_end {W0 w : World} {br : Nat} {A : Option Addr} {c : Nat} {B : List Int} (p : Nat) (hB : Bs W0 A c B) (h : Rdr W0 w br A c B p) (k : FuncId) (v1 v2 : Value) (hp : ¬ p < B.length) :
    Calls Try.prog 27 #[.pointer (some ⟨br, 0, none⟩), .func (.func k) #[] #[v1, v2]] w fun e w' => e = .panicked [wrongE] ∧ Since w w' := by
  have c0 := h.c0
  have c1 := h.c1
  have HH := Aside0.mk h
  obtain ⟨n, hn⟩ : ∃ n, n = B.length := ⟨_, rfl⟩
  rw [← hn] at c0 hp
  have hge : decide (n ≤ p) = true := decide_eq_true (by omega)
  clear h hB hn hp
  go_enter Try.func27, Try.ntmps27
  go_wp2_with fail
  go_quiet (fail)
  go_wp2
  exact ⟨rfl, rfl, by repeat (first | exact Since.refl _ | refine Since.drewN ?_ _ | refine Since.drew ?_)⟩

set_option maxHeartbeats 4000000 in
set_option maxRecDepth 100000 in
theorem byte2_bad {W0 w : World} {br : Nat} {A : Option Addr} {c : Nat} {B : List Int} (p : Nat) (hB : Bs W0 A c B) (h : Rdr W0 w br A c B p) (k : FuncId) (v1 v2 : Value) (hp : p < B.length) (hE : ∀ (args : Array Value) (w : World), (callFunc k args).run Try.prog w = .ok (.enter k args) w) (hF : ∀ w1, Since w w1 → Calls Try.prog k #[.int .u8 B[p], v1, v2] w1 fun e w' => e = .returned (.bool false) ∧ w' = w1) :
    Calls Try.prog 27 #[.pointer (some ⟨br, 0, none⟩), .func (.func k) #[] #[v1, v2]] w fun e w' => e = .panicked [wrongE] ∧ Since w w' := by
  have c0 := h.c0
  have c1 := h.c1
  obtain ⟨ad, rfl, hc⟩ := hB.at h p hp
  obtain ⟨x, hx⟩ : ∃ x, x = B[p] := ⟨_, rfl⟩
  rw [← hx] at hc hF
  have HF := Aside0.mk hF
  obtain ⟨n, hn⟩ : ∃ n, n = B.length := ⟨_, rfl⟩
  rw [← hn] at c0
  have hge : decide (n ≤ p) = false := decide_eq_false (by omega)
  have hp1 : (p : Int) < (n : Int) := by omega
  clear h hB hx hn hF hp
  go_enter Try.func27, Try.ntmps27
  go_wp2_with fail
  go_quiet (first | (with_reducible refine (HF.out _ (by repeat (first | exact Since.refl _ | refine Since.drewN ?_ _ | refine Since.drew ?_))).mono ?_; rintro e w' ⟨rfl, rfl⟩; first | exact ⟨rfl, 0, rfl⟩ | exact ⟨rfl, _, rfl⟩ | exact ⟨rfl, _, World.drewN_drewN _ _ _⟩))
  go_wp2
  exact ⟨rfl, rfl, by repeat (first | exact Since.refl _ | refine Since.drewN ?_ _ | refine Since.drew ?_)⟩

set_option maxHeartbeats 4000000 in
set_option maxRecDepth 100000 in
theorem byte2_yes {W0 w : World} {br : Nat} {A : Option Addr} {c : Nat} {B : List Int} (p : Nat) (hB : Bs W0 A c B) (h : Rdr W0 w br A c B p) (k : FuncId) (v1 v2 : Value) (hp : p < B.length) (hE : ∀ (args : Array Value) (w : World), (callFunc k args).run Try.prog w = .ok (.enter k args) w) (hF : ∀ w1, Since w w1 → Calls Try.prog k #[.int .u8 B[p], v1, v2] w1 fun e w' => e = .returned (.bool true) ∧ w' = w1) :
    Calls Try.prog 27 #[.pointer (some ⟨br, 0, none⟩), .func (.func k) #[] #[v1, v2]] w fun e w' => e = .returned (.int .u8 B[p]) ∧ Kept w w' (fun k => k = br) ∧ Rdr W0 w' br A c B (p + 1) := by
  have c0 := h.c0
  have c1 := h.c1
  have f1 := h.free 1
  obtain ⟨ad, rfl, hc⟩ := hB.at h p hp
  have HH := Aside0.mk h
  have HP := Aside0.mk hp
  have HA := Aside0.mk (fun w' (h' : Rdr W0 w' br (some ad) c B (p + 1)) => hB.at h' p hp)
  obtain ⟨x, hx⟩ : ∃ x, x = B[p] := ⟨_, rfl⟩
  rw [← hx] at hc hF HA ⊢
  have HF := Aside0.mk hF
  obtain ⟨n, hn⟩ : ∃ n, n = B.length := ⟨_, rfl⟩
  have hn1 : n ≤ 9223372036854775807 := by have := hB.le; have := hB.lim; omega
  rw [← hn] at c0
  have HN := Aside0.mk hn
  have hge : decide (n ≤ p) = false := decide_eq_false (by omega)
  have hp1 : (p : Int) < (n : Int) := by omega
  have hw1 : wrap64 ((p : Int) + 1) = (p : Int) + 1 := by unfold wrap64; omega
  have hw2 : wrap64 ((p : Int) + 1 - 1) = (p : Int) := by unfold wrap64; omega
  clear h hB hx hn hF hp
  go_enter Try.func27, Try.ntmps27
  go_wp2_with fail
  go_quiet (first | (with_reducible refine (HF.out _ (by repeat (first | exact Since.refl _ | refine Since.drewN ?_ _ | refine Since.drew ?_))).mono ?_; rintro e w' ⟨rfl, rfl⟩; first | exact ⟨rfl, 0, rfl⟩ | exact ⟨rfl, _, rfl⟩ | exact ⟨rfl, _, World.drewN_drewN _ _ _⟩))
  go_wp2_with fail
  obtain ⟨w5, hw5⟩ : ∃ w5, w5 = (w.drewN nq).setCell ⟨br, 1, none⟩ (.int .i64 ((p : Int) + 1)) := ⟨_, rfl⟩
  have hR := (HH.out.go ((Since.refl w).drewN nq)).store (p + 1) HP.out
  have hK := Kept.sinceL ((Since.refl w).drewN nq) (kept_set (w.drewN nq) br 1 (.int .i64 ((p : Int) + 1)))
  rw [show ((p + 1 : Nat) : Int) = (p : Int) + 1 from by omega, ← hw5] at hR
  rw [← hw5] at hK ⊢
  obtain ⟨_, e, hc5⟩ := HA.out w5 hR
  injection e with e
  subst e
  have d0 := hR.c0
  have d1 := hR.c1
  rw [← HN.out] at d0
  rw [show ((p + 1 : Nat) : Int) = (p : Int) + 1 from by omega] at d1
  have HR5 := Aside0.mk hR
  have HK5 := Aside0.mk hK
  clear hw5 hR hK c0 c1 hc f1
  go_quiet (fail)
  go_wp2
  go_ret
  exact ⟨rfl, Kept.sinceR HK5.out (by repeat (first | exact Since.refl _ | refine Since.drewN ?_ _ | refine Since.drew ?_)), HR5.out.go (by repeat (first | exact Since.refl _ | refine Since.drewN ?_ _ | refine Since.drew ?_))⟩

theorem byte1_calls {W0 w : World} {br : Nat} {A : Option Addr} {c : Nat} {B : List Int} (p : Nat) (hB : Bs W0 A c B) (h : Rdr W0 w br A c B p) (k : FuncId) (v1 : Value) (may : Int → Bool) (hE : ∀ (args : Array Value) (w : World), (callFunc k args).run Try.prog w = .ok (.enter k args) w) (hF : ∀ x w1, x ∈ B → Since w w1 → Calls Try.prog k #[.int .u8 x, v1] w1 fun e w' => e = .returned (.bool (may x)) ∧ w' = w1) :
    Calls Try.prog 27 #[.pointer (some ⟨br, 0, none⟩), .func (.func k) #[] #[v1]] w (RdEnd W0 w br A c B (Value.int .u8) (rd1 B may p)) := by
  by_cases hp : p < B.length
  · have e : B[p]? = some B[p] := List.getElem?_eq_getElem hp
    have hm : B[p] ∈ B := List.getElem_mem hp
    cases hq : may B[p] with
    | true =>
      rw [rd1_hit e hq]
      refine (byte1_yes p hB h k v1 hp hE (fun w1 hs => by rw [← hq]; exact hF _ w1 hm hs)).mono ?_
      rintro e w' ⟨rfl, h1, h2⟩
      exact ⟨h1, rfl, h2⟩
    | false =>
      have e2 : rd1 B may p = .bad p := by unfold rd1; rw [e]; simp [hq]
      rw [e2]
      refine (byte1_bad p hB h k v1 hp hE (fun w1 hs => by rw [← hq]; exact hF _ w1 hm hs)).mono ?_
      rintro e w' ⟨rfl, h1⟩
      exact ⟨Kept.of_below h1.b _, rfl, h.go h1⟩
  · have e2 : rd1 B may p = .bad p := by unfold rd1; rw [List.getElem?_eq_none (by omega)]
    rw [e2]
    refine (byte1_end p hB h k v1 hp).mono ?_
    rintro e w' ⟨rfl, h1⟩
    exact ⟨Kept.of_below h1.b _, rfl, h.go h1⟩

theorem byte2_calls {W0 w : World} {br : Nat} {A : Option Addr} {c : Nat} {B : List Int} (p : Nat) (hB : Bs W0 A c B) (h : Rdr W0 w br A c B p) (k : FuncId) (v1 v2 : Value) (may : Int → Bool) (hE : ∀ (args : Array Value) (w : World), (callFunc k args).run Try.prog w = .ok (.enter k args) w) (hF : ∀ x w1, x ∈ B → Since w w1 → Calls Try.prog k #[.int .u8 x, v1, v2] w1 fun e w' => e = .returned (.bool (may x)) ∧ w' = w1) :
    Calls Try.prog 27 #[.pointer (some ⟨br, 0, none⟩), .func (.func k) #[] #[v1, v2]] w (RdEnd W0 w br A c B (Value.int .u8) (rd1 B may p)) := by
  by_cases hp : p < B.length
  · have e : B[p]? = some B[p] := List.getElem?_eq_getElem hp
    have hm : B[p] ∈ B := List.getElem_mem hp
    cases hq : may B[p] with
    | true =>
      rw [rd1_hit e hq]
      refine (byte2_yes p hB h k v1 v2 hp hE (fun w1 hs => by rw [← hq]; exact hF _ w1 hm hs)).mono ?_
      rintro e w' ⟨rfl, h1, h2⟩
      exact ⟨h1, rfl, h2⟩
    | false =>
      have e2 : rd1 B may p = .bad p := by unfold rd1; rw [e]; simp [hq]
      rw [e2]
      refine (byte2_bad p hB h k v1 v2 hp hE (fun w1 hs => by rw [← hq]; exact hF _ w1 hm hs)).mono ?_
      rintro e w' ⟨rfl, h1⟩
      exact ⟨Kept.of_below h1.b _, rfl, h.go h1⟩
  · have e2 : rd1 B may p = .bad p := by unfold rd1; rw [List.getElem?_eq_none (by omega)]
    rw [e2]
    refine (byte2_end p hB h k v1 v2 hp).mono ?_
    rintro e w' ⟨rfl, h1⟩
    exact ⟨Kept.of_below h1.b _, rfl, h.go h1⟩

end Go.Proofs.Ytdecgknnbegobaa.Cd

namespace Go.Proofs.Ytdecgknnbegobaa.Cd
open Go.RowKit Go.Lib Go.Maps Go.Proofs.Ytdecgknnbegobaa.D Go.Proofs.YtdecgknnbegobaaW.PrintWords Go.Proofs.YtdecgknnbegobaaW.PrintLast Go.Proofs.YtdecgknnbegobaaW.PrintMore
set_option linter.unusedVariables false
set_option linter.unusedSimpArgs false

theorem enter_of {P : Program} {f : FuncId} {fn : Func} {c : Code} (hf : P.funcs[f]? = some fn) (hname : (fn.name == "runtime.NumGoroutine") = false) (hb : fn.body = some c) (args : Array Value) (w : World) :
    (callFunc f args).run P w = .ok (.enter f args) w := by
  have h1 : fn.name ≠ "runtime.NumGoroutine" := by simpa using hname
  simp [callFunc, go_sem, hf, h1, hb]
theorem enter28 (args : Array Value) (w : World) : (callFunc 28 args).run Try.prog w = .ok (.enter 28 args) w := enter_of Try.func28 (by kernel_rfl) rfl args w
theorem enter30 (args : Array Value) (w : World) : (callFunc 30 args).run Try.prog w = .ok (.enter 30 args) w := enter_of Try.func30 (by kernel_rfl) rfl args w
theorem enter37 (args : Array Value) (w : World) : (callFunc 37 args).run Try.prog w = .ok (.enter 37 args) w := enter_of Try.func37 (by kernel_rfl) rfl args w

set_option maxHeartbeats 1000000 in
theorem same_may (w : World) (b : Nat) (x y : Int) (hb : w.cell? ⟨b, 0, none⟩ = some (.int .u8 y)) :
    Calls Try.prog 28 #[.int .u8 x, .pointer (some ⟨b, 0, none⟩)] w fun e w' => e = .returned (.bool (decide (x = y))) ∧ w' = w := by
  go_enter Try.func28, Try.ntmps28
  go_wp2
  go_ret
  exact ⟨rfl, rfl⟩

set_option maxHeartbeats 1000000 in
theorem op_may (w : World) (b : Nat) (x : Int) (A : Option Addr) (n c : Nat) (hx : 0 ≤ x ∧ x ≤ 255) (hb : w.cell? ⟨b, 0, none⟩ = some (.slice A n c)) :
    Calls Try.prog 30 #[.int .u8 x, .pointer (some ⟨b, 0, none⟩)] w fun e w' => e = .returned (.bool (decide (x < (n : Int)))) ∧ w' = w := by
  have hw : wrap64 x = x := by unfold wrap64; omega
  go_enter Try.func30, Try.ntmps30
  go_wp2
  go_ret
  exact ⟨rfl, rfl⟩

--MAY
theorem and127b (x : Int) (h : 0 ≤ x ∧ x ≤ 255) : Go.bits .and .u8 x 127 = x % 128 := by
  show IntKind.u8.wrap ((BitVec.ofInt 8 x &&& BitVec.ofInt 8 127).toNat : Int) = _
  rw [BitVec.toNat_and, show (BitVec.ofInt 8 127).toNat = 2 ^ 7 - 1 from rfl, Nat.and_two_pow_sub_one_eq_mod]
  have : (BitVec.ofInt 8 x).toNat = x.toNat := by simp [BitVec.toNat_ofInt]; omega
  rw [this]
  simp [IntKind.wrap, IntKind.bits, IntKind.signed]
  omega
/-- May a byte stand in a number, by the place and the room? -/
def mayR (shift room : Nat) (c : Int) : Bool :=
  !(decide (shift > 63) || (decide (c = 0) && decide (shift > 0)) || decide (c % 128 > (room : Int))) &&
    (decide (c < 128) || (decide ((room : Int) ≥ 128) && decide (((room : Int) - c % 128) / 128 ≥ 1)))
theorem mayN_room (most shift n : Nat) (c : Int) : mayN most shift n c = mayR shift ((most - n) / 2 ^ shift) c := rfl
set_option maxHeartbeats 4000000 in
set_option maxRecDepth 100000 in
theorem num_may (w : World) (b1 b2 : Nat) (x : Int) (shift room : Nat) (hx : 0 ≤ x ∧ x ≤ 255) (hr : room < 2 ^ 64) (h1 : w.cell? ⟨b1, 0, none⟩ = some (.int .i64 (shift : Int))) (h2 : w.cell? ⟨b2, 0, none⟩ = some (.int .u64 (room : Int))) :
    Calls Try.prog 37 #[.int .u8 x, .pointer (some ⟨b1, 0, none⟩), .pointer (some ⟨b2, 0, none⟩)] w fun e w' => e = .returned (.bool (mayR shift room x)) ∧ w' = w := by
  have hand := and127b x hx
  obtain ⟨y, hy⟩ : ∃ y, y = x % 128 := ⟨_, rfl⟩
  have hR : ∀ b : Bool, b = mayR shift room x → b = (!(decide (shift > 63) || (decide (x = 0) && decide (shift > 0)) || decide (y > (room : Int))) && (decide (x < 128) || (decide ((room : Int) ≥ 128) && decide (((room : Int) - y) / 128 ≥ 1)))) := by
    intro b hb; rw [hb, mayR, hy]
  obtain ⟨res, hres0⟩ : ∃ r, r = mayR shift room x := ⟨_, rfl⟩
  rw [← hres0]
  have hres := hR res hres0
  rw [← hy] at hand
  have hy1 : 0 ≤ y ∧ y ≤ 127 := by omega
  have hwy : IntKind.u64.wrap y = y := by rw [IntKind.wrap_u64]; omega
  have HY := Aside0.mk hy
  clear hR hy hres0
  by_cases c1 : shift > 63
  · skip
    have g0 : ((shift : Int) > 63) := by omega
    have g1 : decide ((shift : Int) > 63) = true := decide_eq_true (by omega)
    have g2 : decide (63 < shift) = true := decide_eq_true (by omega)
    have hb : res = false := by rw [hres]; simp [c1]
    have HB := Aside0.mk hb
    clear hres hb HY
    try (have C2 := Aside0.mk c2; clear c2)
    go_enter Try.func37, Try.ntmps37
    go_wp2
    go_ret
    exact ⟨by rw [HB.out]; rfl, rfl⟩
  · have c1i : ¬ (shift : Int) > 63 := by omega
    have c1d : decide (63 < shift) = false := decide_eq_false (by omega)
    by_cases c2 : x = 0
    · have c2d : (x == 0) = true := by simp [c2]
      by_cases c3 : shift > 0
      · have c3i : (shift : Int) > 0 := by omega
        have c3d : decide (0 < shift) = true := decide_eq_true (by omega)
        have hb : res = false := by rw [hres]; simp [c1, c2, c3]
        have HB := Aside0.mk hb
        clear hres hb HY
        try (have C2 := Aside0.mk c2; clear c2)
        go_enter Try.func37, Try.ntmps37
        go_wp2
        go_ret
        exact ⟨by rw [HB.out]; rfl, rfl⟩
      · have c3i : ¬ (shift : Int) > 0 := by omega
        have c3d : decide (0 < shift) = false := decide_eq_false (by omega)
        have y0 : y = 0 := by have := HY.out; omega
        have c4 : ¬ y > (room : Int) := by omega
        have c4d : decide ((room : Int) < y) = false := decide_eq_false (by omega)
        have c5 : x < 128 := by omega
        have c5d : decide (x < 128) = true := decide_eq_true (by omega)
        have hb : res = true := by rw [hres]; simp [c1, c3, y0, c5]
        have HB := Aside0.mk hb
        clear hres hb HY
        try (have C2 := Aside0.mk c2; clear c2)
        go_enter Try.func37, Try.ntmps37
        go_wp2
        go_ret
        exact ⟨by rw [HB.out]; rfl, rfl⟩
    · have c2d : (x == 0) = false := by simp [c2]
      by_cases c4 : y > (room : Int)
      · have c4d : decide ((room : Int) < y) = true := decide_eq_true (by omega)
        have hb : res = false := by rw [hres]; simp [c1, c2, c4]
        have HB := Aside0.mk hb
        clear hres hb HY
        try (have C2 := Aside0.mk c2; clear c2)
        go_enter Try.func37, Try.ntmps37
        go_wp2
        go_ret
        exact ⟨by rw [HB.out]; rfl, rfl⟩
      · have c4d : decide ((room : Int) < y) = false := decide_eq_false (by omega)
        by_cases c5 : x < 128
        · have c5d : decide (x < 128) = true := decide_eq_true (by omega)
          have hb : res = true := by rw [hres]; simp [c1, c2, c4, c5]
          have HB := Aside0.mk hb
          clear hres hb HY
          try (have C2 := Aside0.mk c2; clear c2)
          go_enter Try.func37, Try.ntmps37
          go_wp2
          go_ret
          exact ⟨by rw [HB.out]; rfl, rfl⟩
        · have c5d : decide (x < 128) = false := decide_eq_false (by omega)
          by_cases c6 : (room : Int) ≥ 128
          · have c6d : decide (128 ≤ room) = true := decide_eq_true (by omega)
            have hsub : IntKind.u64.wrap ((room : Int) - y) = (room : Int) - y := by rw [IntKind.wrap_u64]; omega
            by_cases c7 : ((room : Int) - y) / 128 ≥ 1
            · have c7d : decide (1 ≤ ((room : Int) - y) / 128) = true := decide_eq_true (by omega)
              have hb : res = true := by rw [hres]; rw [decide_eq_false c1, decide_eq_false c2, decide_eq_false c4, decide_eq_true c6, decide_eq_true c7]; simp
              have HB := Aside0.mk hb
              clear hres hb HY
              try (have C2 := Aside0.mk c2; clear c2)
              go_enter Try.func37, Try.ntmps37
              go_wp2
              go_ret
              exact ⟨by rw [HB.out]; rfl, rfl⟩
            · have c7d : decide (1 ≤ ((room : Int) - y) / 128) = false := decide_eq_false (by omega)
              have hb : res = false := by rw [hres]; rw [decide_eq_false c5, decide_eq_false c7]; simp
              have HB := Aside0.mk hb
              clear hres hb HY
              try (have C2 := Aside0.mk c2; clear c2)
              go_enter Try.func37, Try.ntmps37
              go_wp2
              go_ret
              exact ⟨by rw [HB.out]; rfl, rfl⟩
          · have c6d : decide (128 ≤ room) = false := decide_eq_false (by omega)
            have hb : res = false := by rw [hres]; rw [decide_eq_false c5, decide_eq_false c6]; simp
            have HB := Aside0.mk hb
            clear hres hb HY
            try (have C2 := Aside0.mk c2; clear c2)
            go_enter Try.func37, Try.ntmps37
            go_wp2
            go_ret
            exact ⟨by rw [HB.out]; rfl, rfl⟩

end Go.Proofs.Ytdecgknnbegobaa.Cd

namespace Go.Proofs.Ytdecgknnbegobaa.Cd
open Go.RowKit Go.Lib Go.Maps Go.Proofs.Ytdecgknnbegobaa.D Go.Proofs.YtdecgknnbegobaaW.PrintWords Go.Proofs.YtdecgknnbegobaaW.PrintLast Go.Proofs.YtdecgknnbegobaaW.PrintMore
set_option linter.unusedVariables false
set_option linter.unusedSimpArgs false

theorem mayR_min (shift y : Nat) (c : Int) : mayR shift (y / 2 ^ min shift 64) c = mayR shift (y / 2 ^ shift) c := by
  by_cases h : shift > 63
  · unfold mayR; rw [decide_eq_true h]; simp
  · rw [show min shift 64 = shift from by omega]
theorem or_shift (n k shift : Nat) (hn : n < 2 ^ shift) (ht : n + k * 2 ^ shift < 2 ^ 64) : Go.bits .or .u64 (n : Int) ((k * 2 ^ shift : Nat) : Int) = ((n + k * 2 ^ shift : Nat) : Int) := by
  have e0 : k * 2 ^ shift ||| n = k * 2 ^ shift + n := by rw [Nat.mul_comm k, ← Nat.two_pow_add_eq_or_of_lt hn]
  obtain ⟨y, hy⟩ : ∃ y, y = k * 2 ^ shift := ⟨_, rfl⟩
  rw [← hy] at ht e0 ⊢
  clear hn hy
  show IntKind.u64.wrap ((BitVec.ofInt 64 (n : Int) ||| BitVec.ofInt 64 (y : Int)).toNat : Int) = _
  have e1 : (BitVec.ofInt 64 (n : Int)).toNat = n := by simp only [BitVec.toNat_ofInt]; omega
  have e2 : (BitVec.ofInt 64 (y : Int)).toNat = y := by simp only [BitVec.toNat_ofInt]; omega
  rw [BitVec.toNat_or, e1, e2, Nat.or_comm, e0, IntKind.wrap_u64]
  omega
theorem gk_pos {shift gk : Nat} (h : shift + 7 * gk = 77) (hs : shift ≤ 63) : ∃ g, gk = g + 1 := ⟨gk - 1, by omega⟩
theorem rdN_ok {B : List Int} {most shift n q q' : Nat} {cc : Int} (g : Nat) (e1 : rd1 B (mayN most shift n) q = .ok cc q') : rdN B most (g + 1) shift n q = if cc < 128 then .ok (n + (cc % 128).toNat * 2 ^ shift) q' else rdN B most g (shift + 7) (n + (cc % 128).toNat * 2 ^ shift) q' := by
  rw [rdN]
  simp only [e1]
theorem Kept.thru {w w1 w2 : World} {S : Nat → Prop} (h : Kept w w1 S) (k : Kept w1 w2 S) : Kept w w2 S := ⟨Nat.le_trans h.1 k.1, fun i hi hn => (k.2 i (Nat.lt_of_lt_of_le hi h.1) hn).trans (h.2 i hi hn)⟩
theorem num_or {n shift most : Nat} {cc : Int} (hn : n < 2 ^ shift) (hm : n ≤ most) (h64 : most < 2 ^ 64) (h : mayN most shift n cc = true) (hc : 0 ≤ cc ∧ cc ≤ 255) :
    Go.bits .or .u64 (n : Int) (IntKind.u64.wrap (IntKind.u64.wrap (Go.bits .and .u8 cc 127) * 2 ^ min shift 64)) = ((n + (cc % 128).toNat * 2 ^ shift : Nat) : Int) ∧ n + (cc % 128).toNat * 2 ^ shift ≤ most ∧ n + (cc % 128).toNat * 2 ^ shift < 2 ^ (shift + 7) ∧ shift ≤ 63 := by
  obtain ⟨g1, g2, g3, g4⟩ := mayN_spec.1 h
  have g5 : (cc % 128).toNat * 2 ^ shift ≤ most - n := (Nat.le_div_iff_mul_le (Nat.two_pow_pos _)).1 (by omega)
  have g6 : (cc % 128).toNat * 2 ^ shift ≤ 127 * 2 ^ shift := Nat.mul_le_mul_right _ (by omega)
  have hp : 2 ^ (shift + 7) = 2 ^ shift * 128 := by rw [Nat.pow_add]
  refine ⟨?_, by omega, by omega, g1⟩
  rw [and127b cc hc, show min shift 64 = shift from by omega]
  have e1 : IntKind.u64.wrap (cc % 128) = ((cc % 128).toNat : Int) := by rw [IntKind.wrap_u64]; omega
  have e2 : IntKind.u64.wrap (((cc % 128).toNat : Int) * 2 ^ shift) = (((cc % 128).toNat * 2 ^ shift : Nat) : Int) := by
    have e3 : ((cc % 128).toNat : Int) * 2 ^ shift = (((cc % 128).toNat * 2 ^ shift : Nat) : Int) := by norm_cast
    rw [e3, IntKind.wrap_u64]
    omega
  rw [e1, e2]
  exact or_shift n _ shift hn (by omega)
theorem Kept.block {w w1 : World} {S : Nat → Prop} (h : Kept w w1 S) {b : Nat} {o : Obj} (hb : w.heap[b]? = some o) (hn : ¬ S b) : w1.heap[b]? = some o := (h.2 b (Array.getElem?_eq_some_iff.1 hb).1 hn).trans hb
set_option maxHeartbeats 4000000 in
set_option maxRecDepth 100000 in
theorem rdNum_calls {W0 w : World} {br : Nat} {A : Option Addr} {c : Nat} {B : List Int} (p : Nat) (hB : Bs W0 A c B) (h255 : ∀ x ∈ B, 0 ≤ x ∧ x ≤ 255) (h : Rdr W0 w br A c B p) (most : Nat) (hm : most < 2 ^ 64) :
    Calls Try.prog 29 #[.pointer (some ⟨br, 0, none⟩), .int .u64 (most : Int)] w (RdEnd W0 w br A c B (fun n : Nat => .int .u64 (n : Int)) (rdNum most B p)) := by
  have hmf : ∀ (fn : Fn) (first cap : Array Value) (w : World), (Instr.makeFunc fn first cap).run Try.prog w = .ok (.func fn first cap) w := fun _ _ _ _ => rfl
  obtain ⟨res, hres⟩ : ∃ r, r = rdNum most B p := ⟨_, rfl⟩
  rw [← hres]
  have HRES := Aside0.mk hres
  have HB := Aside0.mk hB
  have H255 := Aside0.mk h255
  have HR := Aside0.mk h
  have HM := Aside0.mk hm
  clear hres hB h255 h
  go_enter Try.func29, Try.ntmps29
  go_wp2_with fail
  go_loopg [5, 6] 11 (fun gk v5 v6 wr => ∃ (n b : Nat) (shift : Nat), v5 = .int .u64 (n : Int) ∧ v6 = .pointer (some ⟨b, 0, none⟩) ∧ Aside0 (wr.heap[b]? = some (.cells #[.int .i64 (shift : Int)] 3 (0, 0)) ∧ b ≠ br) ∧ Aside0 (shift + 7 * gk = 77 ∧ n ≤ most ∧ n < 2 ^ shift) ∧ Aside0 (∃ q, Kept w wr (fun k => k = br) ∧ Rdr W0 wr br A c B q ∧ res = rdN B most gk shift n q))
  case atStart =>
    have hb := heap_alloc_new w (.cells #[.int .i64 0] 3)
    have hs := (Since.refl w).alloc (.cells #[.int .i64 0] 3)
    exact ⟨0, w.heap.size, 0, rfl, rfl, ⟨hb, fun e => by have := (Array.getElem?_eq_some_iff.1 HR.out.blk).1; omega⟩, ⟨by omega, Nat.zero_le _, by decide⟩, ⟨p, Kept.of_below hs.b _, HR.out.go hs, HRES.out⟩⟩
  case round =>
    obtain ⟨n, b, shift, rfl, rfl, HBX, HI, HS⟩ := hrel
    obtain ⟨q, hK, hR, hr⟩ := HS.out
    have q0 : wr.cell? ⟨b, 0, none⟩ = some (.int .i64 (shift : Int)) := (cell_of_heap HBX.out.1 0).trans rfl
    obtain ⟨room, hroom⟩ : ∃ r, r = (most - n) / 2 ^ min shift 64 := ⟨_, rfl⟩
    have hrm : IntKind.u64.wrap ((most : Int) - (n : Int)) / 2 ^ min shift 64 = (room : Int) := by
      have h2 := HI.out.2.1
      rw [IntKind.wrap_u64, show ((most : Int) - (n : Int)) % 18446744073709551616 = ((most - n : Nat) : Int) from by omega, hroom]
      norm_cast
    have hr64 : room < 2 ^ 64 := by
      have := Nat.div_le_self (most - n) (2 ^ min shift 64)
      omega
    obtain ⟨w3, hw3⟩ : ∃ w3, w3 = wr.alloc (.cells #[.int .u64 (room : Int)] 42) := ⟨_, rfl⟩
    have hs3 : Since wr w3 := by rw [hw3]; exact (Since.refl wr).alloc _
    have hb3 : w3.heap[wr.heap.size]? = some (.cells #[.int .u64 (room : Int)] 42 (0, 0)) := by rw [hw3]; exact heap_alloc_new wr _
    have hmay : (fun x => mayR shift room x) = mayN most shift n := by
      funext x
      rw [mayN_room, ← mayR_min, hroom]
    have hCl := byte2_calls q HB.out (hR.go hs3) 37 (.pointer (some ⟨b, 0, none⟩)) (.pointer (some ⟨wr.heap.size, 0, none⟩)) (fun x => mayR shift room x) enter37 (fun x w1 hx hs1 => num_may w1 b wr.heap.size x shift room (H255.out x hx) hr64 ((cell_of_heap (Cd.blk (hs3.trans hs1).b HBX.out.1) 0).trans rfl) ((cell_of_heap (Cd.blk hs1.b hb3) 0).trans rfl))
    rw [hmay, hw3] at hCl
    have HCl := Aside0.mk hCl
    have HK := Aside0.mk hK
    have HR3 := Aside0.mk hR
    cases e1 : rd1 B (mayN most shift n) q with
    | bad q' =>
      have hres : res = .bad q' := by
        rw [hr]
        cases gk with
        | zero =>
          have := HI.out.1
          have h2 : rd1 B (mayN most shift n) q = .bad q := by
            unfold rd1
            split
            · have : mayN most shift n = fun _ => false := by
                funext x
                unfold mayN; rw [decide_eq_true (by omega)]; simp
              rw [this]; simp
            · rfl
          rw [h2] at e1
          injection e1 with e1
          rw [← e1]; rfl
        | succ f => unfold rdN; rw [e1]
      have HE := Aside0.mk hres
      have HE1 := Aside0.mk e1
      have HS3 := Aside0.mk hs3
      rw [hw3] at HS3
      clear hK hR hr hroom hr64 hw3 hs3 hb3 hmay hCl e1 hres
      go_wp2_with (go_at_call 27; go_loud (refine HCl.out.mono ?_; rintro e w5 ⟨hk5, hr5⟩; rw [HE1.out] at hr5; obtain ⟨rfl, hr5⟩ := hr5; have HK5 := Aside0.mk hk5; have HR5 := Aside0.mk hr5; clear hk5 hr5))
      exact ⟨rfl, Kept.thru HK.out (Kept.sinceL HS3.out HK5.out), by rw [HE.out]; exact ⟨rfl, HR5.out⟩⟩
    | ok cc q' =>
      have HE1 := Aside0.mk e1
      obtain ⟨f1, f2, f3⟩ := rd1_ok e1
      obtain ⟨hor, hle, hlt, hsh⟩ := num_or HI.out.2.2 HI.out.2.1 HM.out f2 (H255.out cc (List.mem_of_getElem? f1))
      obtain ⟨m, hmm⟩ : ∃ m, m = n + (cc % 128).toNat * 2 ^ shift := ⟨_, rfl⟩
      rw [← hmm] at hor hle hlt
      have hw7 : wrap64 ((shift : Int) + 7) = ((shift + 7 : Nat) : Int) := by unfold wrap64; omega
      obtain ⟨g, hg⟩ : ∃ g, gk = g + 1 := gk_pos HI.out.1 hsh
      have HG := Aside0.mk hg
      have hres : res = if cc < 128 then .ok m q' else rdN B most g (shift + 7) m q' := by
        rw [hr, hg, hmm]
        exact rdN_ok g e1
      have HE := Aside0.mk hres
      have HLE := Aside0.mk (And.intro hle hlt)
      have HS3 := Aside0.mk hs3
      rw [hw3] at HS3
      clear hK hR hr hroom hr64 hw3 hs3 hb3 hmay hCl e1 f1 f2 f3 hle hlt hsh hmm hg hres
      by_cases hcc : cc < 128
      · go_wp2_with (go_at_call 27; go_loud (refine HCl.out.mono ?_; rintro e w5 ⟨hk5, hr5⟩; rw [HE1.out] at hr5; obtain ⟨rfl, hr5⟩ := hr5; have HK5 := Aside0.mk hk5; have HR5 := Aside0.mk hr5; have hb5 := Kept.block hk5 (Cd.blk ((Since.refl wr).alloc _).b HBX.out.1) HBX.out.2; have q5 : w5.cell? ⟨b, 0, none⟩ = some (.int .i64 (shift : Int)) := (cell_of_heap hb5 0).trans rfl; clear hk5 hr5 hb5))
        go_ret
        have he := HE.out
        rw [if_pos hcc] at he
        exact ⟨Kept.thru HK.out (Kept.sinceL HS3.out HK5.out), by rw [he]; exact ⟨rfl, HR5.out⟩⟩
      · go_wp2_with (go_at_call 27; go_loud (refine HCl.out.mono ?_; rintro e w5 ⟨hk5, hr5⟩; rw [HE1.out] at hr5; obtain ⟨rfl, hr5⟩ := hr5; have HK5 := Aside0.mk hk5; have HR5 := Aside0.mk hr5; have hb5 := Kept.block hk5 (Cd.blk ((Since.refl wr).alloc _).b HBX.out.1) HBX.out.2; have q5 : w5.cell? ⟨b, 0, none⟩ = some (.int .i64 (shift : Int)) := (cell_of_heap hb5 0).trans rfl; clear hk5 hr5 hb5))
        obtain ⟨k2, hk2⟩ : ∃ k2, k2 = g := ⟨_, rfl⟩
        go_roundg k2
        case measure => have := HG.out; omega
        case rel =>
          have he := HE.out
          rw [if_neg (by omega)] at he
          have hb6 := heap_alloc_new w5 (.cells #[.int .i64 ((shift + 7 : Nat) : Int)] 3)
          have hs6 := (Since.refl w5).alloc (.cells #[.int .i64 ((shift + 7 : Nat) : Int)] 3)
          refine ⟨m, w5.heap.size, shift + 7, rfl, rfl, ⟨hb6, fun e => ?_⟩, ⟨?_, HLE.out.1, HLE.out.2⟩, ⟨q', ?_, HR5.out.go hs6, by rw [hk2]; exact he⟩⟩
          · have := (Array.getElem?_eq_some_iff.1 HR5.out.blk).1; omega
          · have := HI.out.1; have := HG.out; omega
          · exact Kept.sinceR (Kept.thru HK.out (Kept.sinceL HS3.out HK5.out)) hs6

end Go.Proofs.Ytdecgknnbegobaa.Cd

namespace Go.Proofs.Ytdecgknnbegobaa.Cd
open Go.RowKit Go.Lib Go.Maps Go.Proofs.Ytdecgknnbegobaa.D Go.Proofs.YtdecgknnbegobaaW.PrintWords Go.Proofs.YtdecgknnbegobaaW.PrintLast Go.Proofs.YtdecgknnbegobaaW.PrintMore
set_option linter.unusedVariables false
set_option linter.unusedSimpArgs false

theorem uz_bits (u : Nat) (hu : u ≤ 18446744073709551615) : Go.bits .xor .i64 ((u : Int) / 2) (wrap64 (-wrap64 (Go.bits .and .u64 (u : Int) 1))) = uz u := by
  have e1 : Go.bits .and .u64 (u : Int) 1 = ((u % 2 : Nat) : Int) := by
    show IntKind.u64.wrap ((BitVec.ofInt 64 (u : Int) &&& BitVec.ofInt 64 1).toNat : Int) = _
    rw [BitVec.toNat_and, show (BitVec.ofInt 64 1).toNat = 2 ^ 1 - 1 from rfl, Nat.and_two_pow_sub_one_eq_mod, IntKind.wrap_u64]
    have : (BitVec.ofInt 64 (u : Int)).toNat = u := by simp only [BitVec.toNat_ofInt]; omega
    rw [this]
    omega
  rw [e1]
  obtain ⟨h, hh⟩ : ∃ h, h = u / 2 := ⟨_, rfl⟩
  have e2 : (u : Int) / 2 = (h : Int) := by omega
  have hh2 : h < 9223372036854775808 := by omega
  have e3 : (BitVec.ofInt 64 (h : Int)).toNat = h := by simp only [BitVec.toNat_ofInt]; omega
  unfold uz
  rw [e2, ← hh]
  rcases (by omega : u % 2 = 0 ∨ u % 2 = 1) with e | e
  · rw [e, if_pos rfl, show wrap64 (-wrap64 ((0 : Nat) : Int)) = 0 from by unfold wrap64; omega]
    show IntKind.i64.wrap ((BitVec.ofInt 64 (h : Int) ^^^ BitVec.ofInt 64 0).toNat : Int) = _
    rw [show BitVec.ofInt 64 0 = 0#64 from rfl, BitVec.xor_zero, e3, IntKind.wrap_i64]
    omega
  · rw [e, if_neg (by omega), show wrap64 (-wrap64 ((1 : Nat) : Int)) = -1 from by unfold wrap64; omega]
    show IntKind.i64.wrap ((BitVec.ofInt 64 (h : Int) ^^^ BitVec.ofInt 64 (-1)).toNat : Int) = _
    have e4 : BitVec.ofInt 64 (-1) = BitVec.allOnes 64 := by decide
    rw [e4, BitVec.xor_allOnes, BitVec.toNat_not, e3, IntKind.wrap_i64]
    omega
set_option maxHeartbeats 4000000 in
set_option maxRecDepth 100000 in
theorem rdS_calls {W0 w : World} {br : Nat} {A : Option Addr} {c : Nat} {B : List Int} (p : Nat) (hB : Bs W0 A c B) (h255 : ∀ x ∈ B, 0 ≤ x ∧ x ≤ 255) (h : Rdr W0 w br A c B p) :
    Calls Try.prog 31 #[.pointer (some ⟨br, 0, none⟩)] w (RdEnd W0 w br A c B (fun n : Int => .int .i64 n) (rdS B p)) := by
  have hC := Aside0.mk (rdNum_calls p hB h255 h 18446744073709551615 (by omega))
  obtain ⟨res, hres⟩ : ∃ r, r = rdS B p := ⟨_, rfl⟩
  rw [← hres]
  cases e1 : rdNum 18446744073709551615 B p with
  | bad q =>
    have hr : res = .bad q := by rw [hres, rdS, e1]; rfl
    have HE := Aside0.mk hr
    have HE1 := Aside0.mk e1
    clear hres hB h255 h hr e1
    go_enter Try.func31, Try.ntmps31
    go_wp2_with (go_at_call 29; go_loud (refine hC.out.mono ?_; rintro e w5 ⟨hk5, hr5⟩; rw [HE1.out] at hr5; obtain ⟨rfl, hr5⟩ := hr5; have HK5 := Aside0.mk hk5; have HR5 := Aside0.mk hr5; clear hk5 hr5))
    exact ⟨rfl, HK5.out, by rw [HE.out]; exact ⟨rfl, HR5.out⟩⟩
  | ok u q =>
    have hr : res = .ok (uz u) q := by rw [hres, rdS, e1]; rfl
    have HE := Aside0.mk hr
    have HE1 := Aside0.mk e1
    have hu : u ≤ 18446744073709551615 := (rdNum_read h255 (by omega) e1).1
    clear hres hB h255 h hr e1
    go_enter Try.func31, Try.ntmps31
    go_wp2_with (go_at_call 29; go_loud (refine hC.out.mono ?_; rintro e w5 ⟨hk5, hr5⟩; rw [HE1.out] at hr5; obtain ⟨rfl, hr5⟩ := hr5; have HK5 := Aside0.mk hk5; have HR5 := Aside0.mk hr5; clear hk5 hr5))
    go_ret
    refine ⟨HK5.out, ?_⟩
    rw [HE.out]
    refine ⟨?_, HR5.out⟩
    rw [← uz_bits u hu]
    rfl

theorem conv_cells (w : World) (a : Addr) (c : Nat) (l : List Int) (hc : ∀ j x, l[j]? = some x → w.cell? (a.add j) = some (.int .u8 x)) : (convert 26 9 (.slice (some a) l.length c)).run Try.prog w = .ok (.string (strOfNums l)) w := by
  have hl := run_loadCells_list (P := Try.prog) w a (l.map (Value.int .u8)) (fun j v hj => by
    simp only [List.getElem?_map, Option.map_eq_some_iff] at hj
    obtain ⟨x, hx, rfl⟩ := hj
    exact hc j x hx)
  rw [List.length_map] at hl
  rw [run_convert_bytes_string w 26 9 5 _ l.length c Try.underlying26 Try.underlying5 Try.underlying9, run_bytesToString w a l.length c l hl, foldl_push_bytes]
  simp [strOfNums, ByteArray.empty, ByteArray.emptyWithCapacity]
  rfl
set_option maxHeartbeats 4000000 in
set_option maxRecDepth 100000 in
theorem rdT_calls {W0 w : World} {br : Nat} {A : Option Addr} {c : Nat} {B : List Int} (p : Nat) (hB : Bs W0 A c B) (h : Rdr W0 w br A c B p) (n : Nat) (hn : n ≤ 65536) :
    Calls Try.prog 32 #[.pointer (some ⟨br, 0, none⟩), .int .i64 (n : Int)] w (RdEnd W0 w br A c B (fun s : ByteArray => .string s) (rdT n B p)) := by
  have c0 := h.c0
  have c1 := h.c1
  have f1 := h.free 1
  have HH := Aside0.mk h
  have hple := h.le
  obtain ⟨len, hlen⟩ : ∃ m, m = B.length := ⟨_, rfl⟩
  have hl1 : len ≤ 9223372036854775807 := by have := hB.le; have := hB.lim; omega
  rw [← hlen] at c0 hple
  have HL := Aside0.mk hlen
  have HB := Aside0.mk hB
  have hw1 : wrap64 ((len : Int) - (p : Int)) = (len : Int) - (p : Int) := by unfold wrap64; omega
  by_cases t : n > len - p
  · have hd : decide ((len : Int) - (p : Int) < (n : Int)) = true := decide_eq_true (by omega)
    have hr : rdT n B p = .bad len := by rw [rdT, if_pos (by omega), hlen]
    rw [hr]
    clear hB hlen hr h
    go_enter Try.func32, Try.ntmps32
    go_wp2_with fail
    go_quiet (fail)
    go_wp2
    have hs := (Since.refl w).drewN nq
    have hR := (HH.out.go hs).store len (by have := HL.out; omega)
    exact ⟨rfl, Kept.sinceL hs (kept_set _ br 1 _), rfl, hR⟩
  · have hd : decide ((len : Int) - (p : Int) < (n : Int)) = false := decide_eq_false (by omega)
    have hr : rdT n B p = .ok (strOfNums ((B.drop p).take n)) (p + n) := by rw [rdT, if_neg (by omega)]
    rw [hr]
    obtain ⟨s, hs'⟩ : ∃ s, s = strOfNums ((B.drop p).take n) := ⟨_, rfl⟩
    rw [← hs']
    have HSS := Aside0.mk hs'
    clear hB hlen hr h hs'
    go_enter Try.func32, Try.ntmps32
    go_wp2_with fail
    go_quiet (fail)
    go_wp2_with fail
    have hs := (Since.refl w).drewN nq
    have hple2 : p + n ≤ len := by omega
    have hR := (HH.out.go hs).store (p + n) (by have := HL.out; omega)
    have hK := Kept.sinceL hs (kept_set (w.drewN nq) br 1 (.int .i64 ((p : Int) + (n : Int))))
    obtain ⟨w5, hw5⟩ : ∃ w5, w5 = (w.drewN nq).setCell ⟨br, 1, none⟩ (.int .i64 ((p : Int) + (n : Int))) := ⟨_, rfl⟩
    rw [show ((p + n : Nat) : Int) = (p : Int) + (n : Int) from by omega, ← hw5] at hR
    rw [← hw5] at hK ⊢
    have hcl : len ≤ c := by have := HB.out.le; have := HL.out; omega
    have hc1 : c ≤ 9223372036854775807 := HB.out.lim
    have d0 := hR.c0
    have d1 := hR.c1
    rw [← HL.out] at d0
    rw [show ((p + n : Nat) : Int) = (p : Int) + (n : Int) from by omega] at d1
    have HR5 := Aside0.mk hR
    have HK5 := Aside0.mk hK
    have hw2 : wrap64 ((p : Int) + (n : Int) - (n : Int)) = (p : Int) := by unfold wrap64; omega
    clear hw5 hR hK c0 c1 f1 hs hd t hw1
    rcases Nat.eq_zero_or_pos n with hn0 | hn0
    · have hs0 : s = ByteArray.empty := by rw [HSS.out, hn0]; rfl
      have hcv : ∀ (A : Option Addr) (c k : Nat), (convert 26 9 (.slice A 0 c)).run Try.prog (w5.drewN k) = .ok (.string s) (w5.drewN k) := by
        intro A c k
        rw [hs0]
        cases A with
        | none => exact run_convert_bytes_nil _ 26 5 Try.underlying26 Try.underlying5 0 c 9 Try.underlying9
        | some a =>
          have := run_convert_bytes_back (P := Try.prog) (w5.drewN k) 26 9 5 a c [] Try.underlying26 Try.underlying5 Try.underlying9 (fun j hj => by simp at hj)
          exact this
      subst hn0
      go_quiet (fail)
      go_wp2_with fail
      all_goals
        try (have e9 : c = p := (by assumption); subst e9)
        go_ret
        have hs9 : Since w5 (w5.drewN nq) := (Since.refl w5).drewN nq
        exact ⟨Kept.sinceR HK5.out hs9, by first | rfl | (rw [hs0]; rfl), HR5.out.go hs9⟩
    · have : 0 < B.length := by have := HL.out; omega
      obtain ⟨ad, hA, _⟩ := HB.out.at HH.out 0 this
      subst hA
      have hcv : ∀ k, (convert 26 9 (.slice (some (ad.add p)) n (c - p))).run Try.prog (w5.drewN k) = .ok (.string s) (w5.drewN k) := by
        intro k
        have hl : ((B.drop p).take n).length = n := by have := HL.out; simp; omega
        have := conv_cells (w5.drewN k) (ad.add p) (c - p) ((B.drop p).take n) (fun j x hj => by
          have hj' := (List.getElem?_eq_some_iff.1 hj).1
          rw [List.getElem?_take_of_lt (by omega), List.getElem?_drop] at hj
          obtain ⟨hlt, he⟩ := List.getElem?_eq_some_iff.1 hj
          obtain ⟨_, e, hc⟩ := HB.out.at (HR5.out.go ((Since.refl w5).drewN k)) (p + j) hlt
          injection e with e
          subst e
          rw [Addr.add_add, hc, he])
        rw [hl, ← HSS.out] at this
        exact this
      go_quiet (fail)
      go_wp2_with fail
      go_ret
      exact ⟨Kept.sinceR HK5.out (by repeat (first | exact Since.refl _ | refine Since.drewN ?_ _ | refine Since.drew ?_)), rfl, HR5.out.go (by repeat (first | exact Since.refl _ | refine Since.drewN ?_ _ | refine Since.drew ?_))⟩

end Go.Proofs.Ytdecgknnbegobaa.Cd

namespace Go.Proofs.Ytdecgknnbegobaa.Cd
open Go.RowKit Go.Lib Go.Maps Go.Proofs.Ytdecgknnbegobaa.D Go.Proofs.YtdecgknnbegobaaW.PrintWords Go.Proofs.YtdecgknnbegobaaW.PrintLast Go.Proofs.YtdecgknnbegobaaW.PrintMore
set_option linter.unusedVariables false
set_option linter.unusedSimpArgs false

def cells39 (x : S39) : List Value := [.string x.f0, .int .i64 x.f1, .int .i64 x.f2, .int .i64 x.f3, .string x.f4]
/-- The program's variable of the reader's call, and the result's. -/
structure Cst (W0 w wr : World) (br : Nat) (A : Option Addr) (c : Nat) (B : List Int) (q b2 b5 : Nat) (vW : Value) (ws : List Int) (rg : Int) (vI : Value) (xs : List S39) : Prop where
  lt : br < w.heap.size
  kept : Kept w wr (fun k => k = br)
  rdr : Rdr W0 wr br A c B q
  n2 : w.heap.size ≤ b2
  n5 : w.heap.size ≤ b5
  ne : b2 ≠ b5
  h2 : wr.heap[b2]? = some (.cells #[.slice none 0 0, .int .i64 0, .slice none 0 0] 25 (0, 0))
  h5 : wr.heap[b5]? = some (.cells #[vW, .int .i64 rg, vI] 25 (0, 0))
  ow : wr.ownsRow w.heap.size 3 1 vW ws.length (ws.map (Value.int .i64))
  oi : wr.ownsRow w.heap.size 39 5 vI xs.length (xs.flatMap cells39)
theorem own_kept {w w' : World} {base n size : Nat} {e : TypeId} {v : Value} {cs : List Value} (h : w.ownsRow base e size v n cs) (hk : ∀ k, v.ownBlock = some k → w'.heap[k]? = w.heap[k]?) : w'.ownsRow base e size v n cs := by
  obtain ⟨h1, h2⟩ := h
  refine ⟨h1, ?_⟩
  rcases h2 with h2 | ⟨g, cap, cur, rfl, hg, hb, r⟩
  · exact .inl h2
  · exact .inr ⟨g, cap, cur, rfl, hg, (hk g rfl).trans hb, r⟩
theorem own_lt {w : World} {base n size : Nat} {e : TypeId} {v : Value} {cs : List Value} (h : w.ownsRow base e size v n cs) {k : Nat} (hk : v.ownBlock = some k) : k < w.heap.size ∧ base ≤ k ∧ ∃ cur, w.heap[k]? = some (.cells cur e (0, 0)) := by
  obtain ⟨h1, h2⟩ := h
  rcases h2 with ⟨rfl, _⟩ | ⟨g, cap, cur, rfl, hg, hb, r⟩
  · cases hk
  · injection hk with hk
    have hk : g = k := hk
    subst hk
    exact ⟨(Array.getElem?_eq_some_iff.1 hb).1, hg, cur, hb⟩
theorem Cst.step {W0 w wr w' : World} {br : Nat} {A : Option Addr} {c : Nat} {B : List Int} {q q' b2 b5 : Nat} {vW : Value} {ws : List Int} {rg : Int} {vI : Value} {xs : List S39} (h : Cst W0 w wr br A c B q b2 b5 vW ws rg vI xs) (hk : Kept wr w' (fun k => k = br)) (hr : Rdr W0 w' br A c B q') : Cst W0 w w' br A c B q' b2 b5 vW ws rg vI xs := by
  have hb : ∀ k, w.heap.size ≤ k → k < wr.heap.size → w'.heap[k]? = wr.heap[k]? := fun k h1 h2 => hk.2 k h2 (by have := h.lt; omega)
  exact ⟨h.lt, Kept.thru h.kept hk, hr, h.n2, h.n5, h.ne, (hb _ h.n2 (Array.getElem?_eq_some_iff.1 h.h2).1).trans h.h2, (hb _ h.n5 (Array.getElem?_eq_some_iff.1 h.h5).1).trans h.h5, own_kept h.ow (fun k hk => hb k (own_lt h.ow hk).2.1 (own_lt h.ow hk).1), own_kept h.oi (fun k hk => hb k (own_lt h.oi hk).2.1 (own_lt h.oi hk).1)⟩
theorem Cst.since {W0 w wr w' : World} {br : Nat} {A : Option Addr} {c : Nat} {B : List Int} {q b2 b5 : Nat} {vW : Value} {ws : List Int} {rg : Int} {vI : Value} {xs : List S39} (h : Cst W0 w wr br A c B q b2 b5 vW ws rg vI xs) (hs : Since wr w') : Cst W0 w w' br A c B q b2 b5 vW ws rg vI xs :=
  h.step (Kept.of_below hs.b _) (h.rdr.go hs)
theorem Cst.base {W0 w wr : World} {br : Nat} {A : Option Addr} {c : Nat} {B : List Int} {q b2 b5 : Nat} {vW : Value} {ws : List Int} {rg : Int} {vI : Value} {xs : List S39} (h : Cst W0 w wr br A c B q b2 b5 vW ws rg vI xs) : w.heap.size ≤ wr.heap.size := h.kept.1
/-- Another world in which only rows' blocks, or new ones, have turned: the reader, and the two variables. -/
theorem Rdr.but {W0 w w' : World} {br : Nat} {A : Option Addr} {c : Nat} {B : List Int} {p : Nat} (h : Rdr W0 w br A c B p) (hs : Since W0 w') (hb : w'.heap[br]? = w.heap[br]?) : Rdr W0 w' br A c B p := ⟨hs, h.new, hb.trans h.blk, h.le⟩
theorem since_of {W0 w w' : World} {br : Nat} (h : Since W0 w) (hn : W0.heap.size ≤ br) (hb : Below w.heap.size w w') : Since W0 w' := h.trans ⟨hb⟩
theorem below_of {W0 w w' : World} {base : Nat} (h : Since W0 w) (hb : Below base w w') (hl : W0.heap.size ≤ base) : Since W0 w' := ⟨h.b.trans (hb.mono hl)⟩
/-- The rows of widths grew by one; the variable was set. -/
theorem Cst.width {W0 w wr w1 : World} {br : Nat} {A : Option Addr} {c : Nat} {B : List Int} {q b2 b5 : Nat} {vW : Value} {ws : List Int} {rg : Int} {vI : Value} {xs : List S39} (h : Cst W0 w wr br A c B q b2 b5 vW ws rg vI xs) {v1 : Value} {x : Int} (hb : Below w.heap.size wr w1) (hg : wr.grownBy w1 vW.ownBlock) (ho : w1.ownsRow w.heap.size 3 1 v1 (ws.map (Value.int .i64) ++ [Value.int .i64 x]).length (ws.map (Value.int .i64) ++ [Value.int .i64 x])) :
    w1.heap[b5]? = some (.cells #[vW, .int .i64 rg, vI] 25 (0, 0)) ∧ Cst W0 w (w1.setCell ⟨b5, 0, none⟩ v1) br A c B q b2 b5 v1 (ws ++ [x]) rg vI xs := by
  have hW0 : W0.heap.size ≤ w.heap.size := by have := h.rdr.new; have := h.lt; omega
  have hS : Since W0 w1 := below_of h.rdr.since hb hW0
  have hlt2 := (Array.getElem?_eq_some_iff.1 h.h2).1
  have hlt5 := (Array.getElem?_eq_some_iff.1 h.h5).1
  have hnot : ∀ (k : Nat) (cells : Array Value) (t : TypeId), t ≠ 3 → wr.heap[k]? = some (Obj.cells cells t (0, 0)) → w1.heap[k]? = wr.heap[k]? := by
    intro k cells t ht hk
    refine hg.block k (Array.getElem?_eq_some_iff.1 hk).1 (fun e => ?_)
    obtain ⟨_, _, cur, hc⟩ := own_lt h.ow e.symm
    rw [hc] at hk
    injection hk with hk
    injection hk with _ hk _
    exact ht hk.symm
  have h5 := (hnot b5 _ 25 (by decide) h.h5).trans h.h5
  refine ⟨h5, h.lt, ?_, ?_, h.n2, h.n5, h.ne, ?_, ?_, ?_, ?_⟩
  · have hk1 : Kept w w1 (fun k => k = br) := ⟨Nat.le_trans h.kept.1 hg.size, fun i hi hn => (hb.block i hi).trans (h.kept.2 i hi hn)⟩
    refine ⟨by rw [show (w1.setCell ⟨b5, 0, none⟩ v1).heap.size = w1.heap.size from by simp]; exact hk1.1, fun i hi hn => ?_⟩
    rw [Below.heap_setCell _ _ _ _ (by have := h.n5; simp; omega)]
    exact hk1.2 i hi hn
  · refine h.rdr.but (hS.set (by have := h.n5; simp; omega) _) ?_
    rw [Below.heap_setCell _ _ _ _ (by have := h.n5; have := h.lt; simp; omega)]
    exact hb.block br h.lt
  · rw [Below.heap_setCell _ _ _ _ (by have := h.ne; simpa using this)]
    exact (hnot b2 _ 25 (by decide) h.h2).trans h.h2
  · exact Go.Joins.block_setCell (i := 0) h5 v1
  · have hl : (ws.map (Value.int .i64) ++ [Value.int .i64 x]).length = (ws ++ [x]).length := by simp
    rw [hl] at ho
    have e : (ws ++ [x]).map (Value.int .i64) = ws.map (Value.int .i64) ++ [Value.int .i64 x] := by simp
    rw [e]
    refine own_kept ho (fun k hk => Below.heap_setCell _ _ _ _ ?_)
    obtain ⟨_, _, cur, hc⟩ := own_lt ho hk
    rintro rfl
    rw [h5] at hc
    injection hc with hc
    injection hc with _ hc _
    cases hc
  · have hoi : w1.ownsRow w.heap.size 39 5 vI xs.length (xs.flatMap cells39) := own_kept h.oi (fun k hk => by
      obtain ⟨_, _, cur, hc⟩ := own_lt h.oi hk
      exact hnot k _ 39 (by decide) hc)
    refine own_kept hoi (fun k hk => Below.heap_setCell _ _ _ _ ?_)
    obtain ⟨_, _, cur, hc⟩ := own_lt hoi hk
    rintro rfl
    rw [h5] at hc
    injection hc with hc
    injection hc with _ hc _
    cases hc
/-- The registers were set. -/
theorem Cst.regs {W0 w wr : World} {br : Nat} {A : Option Addr} {c : Nat} {B : List Int} {q b2 b5 : Nat} {vW : Value} {ws : List Int} {rg : Int} {vI : Value} {xs : List S39} (h : Cst W0 w wr br A c B q b2 b5 vW ws rg vI xs) (r : Int) :
    Cst W0 w (wr.setCell ⟨b5, 1, none⟩ (.int .i64 r)) br A c B q b2 b5 vW ws r vI xs := by
  have hW0 : W0.heap.size ≤ w.heap.size := by have := h.rdr.new; have := h.lt; omega
  refine ⟨h.lt, ?_, ?_, h.n2, h.n5, h.ne, ?_, ?_, ?_, ?_⟩
  · refine ⟨by rw [show (wr.setCell ⟨b5, 1, none⟩ (.int .i64 r)).heap.size = wr.heap.size from by simp]; exact h.kept.1, fun i hi hn => ?_⟩
    rw [Below.heap_setCell _ _ _ _ (by have := h.n5; simp; omega)]
    exact h.kept.2 i hi hn
  · refine h.rdr.but (h.rdr.since.set (by have := h.n5; simp; omega) _) ?_
    rw [Below.heap_setCell _ _ _ _ (by have := h.n5; have := h.lt; simp; omega)]
  · rw [Below.heap_setCell _ _ _ _ (by have := h.ne; simpa using this)]
    exact h.h2
  · exact Go.Joins.block_setCell (i := 1) h.h5 (.int .i64 r)
  · refine own_kept h.ow (fun k hk => Below.heap_setCell _ _ _ _ ?_)
    obtain ⟨_, _, cur, hc⟩ := own_lt h.ow hk
    rintro rfl
    rw [h.h5] at hc
    injection hc with hc
    injection hc with _ hc _
    cases hc
  · refine own_kept h.oi (fun k hk => Below.heap_setCell _ _ _ _ ?_)
    obtain ⟨_, _, cur, hc⟩ := own_lt h.oi hk
    rintro rfl
    rw [h.h5] at hc
    injection hc with hc
    injection hc with _ hc _
    cases hc
/-- The row of instructions grew by one; the variable was set. -/
theorem Cst.ins {W0 w wr w1 : World} {br : Nat} {A : Option Addr} {c : Nat} {B : List Int} {q b2 b5 : Nat} {vW : Value} {ws : List Int} {rg : Int} {vI : Value} {xs : List S39} (h : Cst W0 w wr br A c B q b2 b5 vW ws rg vI xs) {v1 : Value} {x : S39} (hb : Below w.heap.size wr w1) (hg : wr.grownBy w1 vI.ownBlock) (ho : w1.ownsRow w.heap.size 39 5 v1 (xs.length + 1) (xs.flatMap cells39 ++ cells39 x)) :
    w1.heap[b5]? = some (.cells #[vW, .int .i64 rg, vI] 25 (0, 0)) ∧ Cst W0 w (w1.setCell ⟨b5, 2, none⟩ v1) br A c B q b2 b5 vW ws rg v1 (xs ++ [x]) := by
  have hW0 : W0.heap.size ≤ w.heap.size := by have := h.rdr.new; have := h.lt; omega
  have hS : Since W0 w1 := below_of h.rdr.since hb hW0
  have hnot : ∀ (k : Nat) (cells : Array Value) (t : TypeId), t ≠ 39 → wr.heap[k]? = some (Obj.cells cells t (0, 0)) → w1.heap[k]? = wr.heap[k]? := by
    intro k cells t ht hk
    refine hg.block k (Array.getElem?_eq_some_iff.1 hk).1 (fun e => ?_)
    obtain ⟨_, _, cur, hc⟩ := own_lt h.oi e.symm
    rw [hc] at hk
    injection hk with hk
    injection hk with _ hk _
    exact ht hk.symm
  have h5 := (hnot b5 _ 25 (by decide) h.h5).trans h.h5
  refine ⟨h5, h.lt, ?_, ?_, h.n2, h.n5, h.ne, ?_, ?_, ?_, ?_⟩
  · have hk1 : Kept w w1 (fun k => k = br) := ⟨Nat.le_trans h.kept.1 hg.size, fun i hi hn => (hb.block i hi).trans (h.kept.2 i hi hn)⟩
    refine ⟨by rw [show (w1.setCell ⟨b5, 2, none⟩ v1).heap.size = w1.heap.size from by simp]; exact hk1.1, fun i hi hn => ?_⟩
    rw [Below.heap_setCell _ _ _ _ (by have := h.n5; simp; omega)]
    exact hk1.2 i hi hn
  · refine h.rdr.but (hS.set (by have := h.n5; simp; omega) _) ?_
    rw [Below.heap_setCell _ _ _ _ (by have := h.n5; have := h.lt; simp; omega)]
    exact hb.block br h.lt
  · rw [Below.heap_setCell _ _ _ _ (by have := h.ne; simpa using this)]
    exact (hnot b2 _ 25 (by decide) h.h2).trans h.h2
  · exact Go.Joins.block_setCell (i := 2) h5 v1
  · have how : w1.ownsRow w.heap.size 3 1 vW ws.length (ws.map (Value.int .i64)) := own_kept h.ow (fun k hk => by
      obtain ⟨_, _, cur, hc⟩ := own_lt h.ow hk
      exact hnot k _ 3 (by decide) hc)
    refine own_kept how (fun k hk => Below.heap_setCell _ _ _ _ ?_)
    obtain ⟨_, _, cur, hc⟩ := own_lt how hk
    rintro rfl
    rw [h5] at hc
    injection hc with hc
    injection hc with _ hc _
    cases hc
  · have hl : xs.length + 1 = (xs ++ [x]).length := by simp
    rw [hl] at ho
    have e : (xs ++ [x]).flatMap cells39 = xs.flatMap cells39 ++ cells39 x := by simp
    rw [e]
    refine own_kept ho (fun k hk => Below.heap_setCell _ _ _ _ ?_)
    obtain ⟨_, _, cur, hc⟩ := own_lt ho hk
    rintro rfl
    rw [h5] at hc
    injection hc with hc
    injection hc with _ hc _
    cases hc

theorem info3w : (Try.prog.info? 3).map (fun i => (i.zero, i.size, i.bytes)) = some (some (.int .i64 0), 1, 8) := by kernel_rfl
theorem info39 : (Try.prog.info? 39).map (fun i => (i.zero, i.size, i.bytes)) = some (some (.agg #[.string ⟨#[]⟩, .int .i64 0, .int .i64 0, .int .i64 0, .string ⟨#[]⟩]), 5, 56) := by kernel_rfl
/-- append to the widths, in a region that draws its order. -/
theorem step_width {ops : Array Oper} {o : Oper} {a : Act} {K : Act → World → Prop} {Q : Exit → Act → World → Prop} {E : Prop} (hgd : o.guard = none) (s x : Operand)
    (ho : o.op = .call { callee := .builtin .append, args := #[s, x], argTypes := #[22, 22] }) (W : World) (base : Nat) (hbase : base ≤ W.heap.size) (v : Value) (n : Nat) (xs : List Value) (hs : a.eval s = v) (hown : W.ownsRow base 3 1 v n xs) (hn : n ≤ 1000)
    (y : Int) (hx : a.eval x = .slice (some ⟨W.heap.size, 0, none⟩) 1 1)
    (h : ∀ v1 w1, w1.ownsRow base 3 1 v1 (n + 1) (xs ++ [.int .i64 y]) → Below base W w1 → W.grownBy w1 v.ownBlock → K (a.put o.dst v1) w1) :
    if Region.wanted o (yielded ops a.tmps) = true then Oper.wp Try.prog o a (W.alloc (.cells #[.int .i64 y] 3)) K Q else E := by
  obtain ⟨i, hi, hzz⟩ := Option.map_eq_some_iff.1 info3w
  simp only [Prod.mk.injEq] at hzz
  obtain ⟨hz0, hz1, hz2⟩ := hzz
  refine step_append_lies _ hgd s x 22 ho base 3 i (.int .i64 0) 1 8 Try.underlying22 hi hz0 hz1 hz2 rfl (by decide) v n xs hs (hown.alloc _) ⟨W.heap.size, 0, none⟩ 1 1 [.int .i64 y] hx rfl
    (World.news_of_block (cs := #[.int .i64 y]) (t := 3) (fr := (0, 0)) (heap_alloc_new W _)) (by intro u hu; simp at hu; subst hu; rfl) (by omega) (by simp only [maxLen]; omega) (by omega) (by simp; omega) _ rfl ?_
  intro g cap w' ho' hg _ _
  exact h _ w' ho' (((Below.refl base W).alloc hbase _).grown hg (by simp; omega) (own_base hown)) (World.grownBy.trans (World.grownBy_alloc W _ _) hg)

/-- append to the instructions. -/
theorem list_ins {ops : Array Oper} {rest : List Oper} {o : Oper} {a : Act} {Q : Exit → Act → World → Prop} (hgd : o.guard = none) (s x : Operand)
    (ho : o.op = .call { callee := .builtin .append, args := #[s, x], argTypes := #[23, 23] }) (W : World) (base : Nat) (hbase : base ≤ W.heap.size) (v : Value) (n : Nat) (xs : List Value) (hs : a.eval s = v) (hown : W.ownsRow base 39 5 v n xs) (hn : n ≤ 5000)
    (y : S39) (hx : a.eval x = .slice (some ⟨W.heap.size, 0, none⟩) 1 1)
    (h : ∀ v1 w1, w1.ownsRow base 39 5 v1 (n + 1) (xs ++ cells39 y) → Below base W w1 → W.grownBy w1 v.ownBlock → wpList Try.prog ops Q rest (a.put o.dst v1) w1) :
    wpList Try.prog ops Q (o :: rest) a (W.alloc (.cells #[.string y.f0, .int .i64 y.f1, .int .i64 y.f2, .int .i64 y.f3, .string y.f4] 39)) :=
  print_append_cells (w0 := W) base hgd s x 23 39 (.agg #[.string ⟨#[]⟩, .int .i64 0, .int .i64 0, .int .i64 0, .string ⟨#[]⟩]) 5 56 ho Try.underlying23 info39 rfl (by decide) (by decide) v n xs (cells39 y) hs hx rfl (by intro u hu; simp [cells39] at hu; rcases hu with rfl | rfl | rfl | rfl | rfl <;> rfl) hown (Below.refl _ _) hbase (by omega) (fun v1 w1 h1 h2 h3 _ => h v1 w1 h1 h2 h3)
/-- The forms' row, and the variable that holds it. -/
structure Lst (wr : World) (br b6 g cap : Nat) (cur : Array Value) : Prop where
  h6 : wr.heap[b6]? = some (.cells #[.slice (some ⟨g, 0, none⟩) 19 cap] 67 (0, 0))
  hg : wr.heap[g]? = some (.cells cur 44 (0, 0))
  n6 : br < b6
  ng : br < g
theorem Lst.step {wr w' : World} {br b6 g cap : Nat} {cur : Array Value} (h : Lst wr br b6 g cap cur) (hk : Kept wr w' (fun k => k = br)) : Lst w' br b6 g cap cur :=
  ⟨Kept.block hk h.h6 (by have := h.n6; omega), Kept.block hk h.hg (by have := h.ng; omega), h.n6, h.ng⟩
theorem Lst.since {wr w' : World} {br b6 g cap : Nat} {cur : Array Value} (h : Lst wr br b6 g cap cur) (hs : Since wr w') : Lst w' br b6 g cap cur := h.step (Kept.of_below hs.b _)
theorem Lst.ins {wr w1 : World} {br b6 g cap : Nat} {cur : Array Value} (h : Lst wr br b6 g cap cur) {base n : Nat} {vI : Value} {cs : List Value} (ho : wr.ownsRow base 39 5 vI n cs) (hg : wr.grownBy w1 vI.ownBlock) {b5 : Nat} {cs5 : Array Value} (h5 : w1.heap[b5]? = some (.cells cs5 25 (0, 0))) (v : Value) : Lst (w1.setCell ⟨b5, 2, none⟩ v) br b6 g cap cur := by
  have hnot : ∀ (k : Nat) (cells : Array Value) (t : TypeId), t ≠ 39 → t ≠ 25 → wr.heap[k]? = some (Obj.cells cells t (0, 0)) → (w1.setCell ⟨b5, 2, none⟩ v).heap[k]? = some (Obj.cells cells t (0, 0)) := by
    intro k cells t ht ht2 hk
    have h1 : w1.heap[k]? = some (Obj.cells cells t (0, 0)) := by
      rw [hg.block k (Array.getElem?_eq_some_iff.1 hk).1 (fun e => ?_)]
      · exact hk
      · obtain ⟨_, _, cur, hc⟩ := own_lt ho e.symm
        rw [hc] at hk
        injection hk with hk
        injection hk with _ hk _
        exact ht hk.symm
    rw [Below.heap_setCell _ _ _ _ (fun e => ?_)]
    · exact h1
    · have e : k = b5 := e
      subst e
      rw [h1] at h5
      injection h5 with h5
      injection h5 with _ h5 _
      exact ht2 h5
  exact ⟨hnot _ _ 67 (by decide) (by decide) h.h6, hnot _ _ 44 (by decide) (by decide) h.hg, h.n6, h.ng⟩
/-- What forms() leaves. -/
theorem forms_row {w w' : World} {v : Value} (hR : Kd.R k44 44 w' w.heap.size (fun _ => True) v formsL) : ∃ g cap cur, v = .slice (some ⟨g, 0, none⟩) 19 cap ∧ w.heap.size ≤ g ∧ w'.heap[g]? = some (.cells cur 44 (0, 0)) ∧ 19 ≤ cap ∧ ∀ i : Int, 0 ≤ i → i < 19 → cur[i.toNat * 7]? = some (.string (fnF i)) := by
  obtain ⟨A, c, hv, hl, hC⟩ := Kd.R_reads hR
  rw [forms_len] at hv hl hC
  obtain ⟨_, inner, ho, _⟩ := hR
  rcases ho.2 with ⟨h1, h2⟩ | ⟨g, cap, cur, h1, h2, h3, _⟩
  · rw [forms_len] at h2; cases h2
  · rw [h1] at hv
    injection hv with e1 e2 e3
    subst e1 e3
    refine ⟨g, cap, cur, by rw [h1, forms_len], h2, h3, hl, fun i h0 h9 => ?_⟩
    obtain ⟨ad, e, d0, _⟩ := at_T44 hC i h0 h9
    injection e with e
    subst e
    have hp : (⟨g, 0, none⟩ : Addr).add (i.toNat * 7) = ⟨g, i.toNat * 7, none⟩ := by rw [add_plain]
    rw [hp, cell_of_heap h3] at d0
    exact d0

theorem forms_calls2 (w : World) : Calls Try.prog 24 #[] w fun e w' => ∃ g cap cur, e = .returned (.slice (some ⟨g, 0, none⟩) 19 cap) ∧ (w.heap.size ≤ g ∧ w'.heap[g]? = some (.cells cur 44 (0, 0)) ∧ 19 ≤ cap ∧ ∀ i : Int, 0 ≤ i → i < 19 → cur[i.toNat * 7]? = some (.string (fnF i))) ∧ Since w w' := by
  refine (code_forms.calls formsL w forms_eq).mono ?_
  rintro e w' ⟨v, rfl, hR, hb⟩
  obtain ⟨g, cap, cur, rfl, h⟩ := forms_row hR
  exact ⟨g, cap, cur, rfl, h, ⟨hb⟩⟩
/-- A store into another block of the call's own. -/
theorem Cst.other {W0 w wr : World} {br : Nat} {A : Option Addr} {c : Nat} {B : List Int} {q b2 b5 : Nat} {vW : Value} {ws : List Int} {rg : Int} {vI : Value} {xs : List S39} (h : Cst W0 w wr br A c B q b2 b5 vW ws rg vI xs) (b8 : Nat) (h8 : w.heap.size ≤ b8) (n2 : b8 ≠ b2) (n5 : b8 ≠ b5) (nW : ∀ k, vW.ownBlock = some k → k ≠ b8) (nI : ∀ k, vI.ownBlock = some k → k ≠ b8) (j : Nat) (v : Value) :
    Cst W0 w (wr.setCell ⟨b8, j, none⟩ v) br A c B q b2 b5 vW ws rg vI xs := by
  have hlt := h.lt
  refine ⟨h.lt, ?_, ?_, h.n2, h.n5, h.ne, ?_, ?_, ?_, ?_⟩
  · refine ⟨by rw [show (wr.setCell ⟨b8, j, none⟩ v).heap.size = wr.heap.size from by simp]; exact h.kept.1, fun i hi hn => ?_⟩
    rw [Below.heap_setCell _ _ _ _ (by simp; omega)]
    exact h.kept.2 i hi hn
  · refine h.rdr.but (h.rdr.since.set (by have := h.rdr.new; simp; omega) _) ?_
    rw [Below.heap_setCell _ _ _ _ (by simp; omega)]
  · rw [Below.heap_setCell _ _ _ _ (by simpa using n2.symm)]
    exact h.h2
  · rw [Below.heap_setCell _ _ _ _ (by simpa using n5.symm)]
    exact h.h5
  · exact own_kept h.ow (fun k hk => Below.heap_setCell _ _ _ _ (nW k hk))
  · exact own_kept h.oi (fun k hk => Below.heap_setCell _ _ _ _ (nI k hk))
theorem Lst.other {wr : World} {br b6 g cap : Nat} {cur : Array Value} (h : Lst wr br b6 g cap cur) (b8 : Nat) (n6 : b8 ≠ b6) (ng : b8 ≠ g) (j : Nat) (v : Value) : Lst (wr.setCell ⟨b8, j, none⟩ v) br b6 g cap cur :=
  ⟨(Below.heap_setCell _ _ _ _ n6.symm).trans h.h6, (Below.heap_setCell _ _ _ _ ng.symm).trans h.hg, h.n6, h.ng⟩
/-- The result's variable is set: what stays. -/
theorem Cst.fin {W0 w wr : World} {br : Nat} {A : Option Addr} {c : Nat} {B : List Int} {q b2 b5 : Nat} {vW : Value} {ws : List Int} {rg : Int} {vI : Value} {xs : List S39} (h : Cst W0 w wr br A c B q b2 b5 vW ws rg vI xs) (v0 v1 v2 : Value) (w' : World) (hw' : w' = ((wr.setCell ⟨b2, 0, none⟩ v0).setCell ⟨b2, 1, none⟩ v1).setCell ⟨b2, 2, none⟩ v2) :
    Kept w w' (fun k => k = br) ∧ Rdr W0 w' br A c B q ∧ w'.ownsRow w.heap.size 3 1 vW ws.length (ws.map (Value.int .i64)) ∧ w'.ownsRow w.heap.size 39 5 vI xs.length (xs.flatMap cells39) := by
  have hlt := h.lt
  have hn2 := h.n2
  have hh : ∀ k, k ≠ b2 → w'.heap[k]? = wr.heap[k]? := by
    intro k hk
    rw [hw', Below.heap_setCell _ _ _ _ hk, Below.heap_setCell _ _ _ _ hk, Below.heap_setCell _ _ _ _ hk]
  have hsz : w'.heap.size = wr.heap.size := by rw [hw']; simp
  have hty : ∀ (k : Nat) (cur : Array Value) (t : TypeId), t ≠ 25 → wr.heap[k]? = some (Obj.cells cur t (0, 0)) → k ≠ b2 := by
    intro k cur t ht hk e
    subst e
    rw [h.h2] at hk
    injection hk with hk
    injection hk with _ hk _
    exact ht hk.symm
  refine ⟨⟨by rw [hsz]; exact h.kept.1, fun i hi hn => (hh i (by omega)).trans (h.kept.2 i hi hn)⟩, h.rdr.but ?_ (hh br (by omega)), own_kept h.ow fun k hk => ?_, own_kept h.oi fun k hk => ?_⟩
  · rw [hw']
    have := h.rdr.new
    exact ((h.rdr.since.set (by simp; omega) _).set (by simp; omega) _).set (by simp; omega) _
  · obtain ⟨_, _, cur, hc⟩ := own_lt h.ow hk
    exact hh k (hty k cur 3 (by decide) hc)
  · obtain ⟨_, _, cur, hc⟩ := own_lt h.oi hk
    exact hh k (hty k cur 39 (by decide) hc)
theorem op_may19 (w : World) (b : Nat) (x : Int) (A : Option Addr) (c : Nat) (hx : 0 ≤ x ∧ x ≤ 255) (hb : w.cell? ⟨b, 0, none⟩ = some (.slice A 19 c)) :
    Calls Try.prog 30 #[.int .u8 x, .pointer (some ⟨b, 0, none⟩)] w fun e w' => e = .returned (.bool (decide (x < 19))) ∧ w' = w := op_may w b x A 19 c hx hb

/-- A block that is laid now is none of those. -/
structure Fresh (w : World) (br b2 b5 b6 g : Nat) (vW vI : Value) (b8 : Nat) : Prop where
  le : w.heap.size ≤ b8
  nr : b8 ≠ br
  n2 : b8 ≠ b2
  n5 : b8 ≠ b5
  n6 : b8 ≠ b6
  ng : b8 ≠ g
  nW : ∀ k, vW.ownBlock = some k → k ≠ b8
  nI : ∀ k, vI.ownBlock = some k → k ≠ b8
theorem Cst.fresh {W0 w wr : World} {br : Nat} {A : Option Addr} {c : Nat} {B : List Int} {q b2 b5 : Nat} {vW : Value} {ws : List Int} {rg : Int} {vI : Value} {xs : List S39} {b6 g cap : Nat} {cur : Array Value} (h : Cst W0 w wr br A c B q b2 b5 vW ws rg vI xs) (hL : Lst wr br b6 g cap cur) : Fresh w br b2 b5 b6 g vW vI wr.heap.size := by
  have hl := h.lt
  have hb := h.base
  have l2 := (Array.getElem?_eq_some_iff.1 h.h2).1
  have l5 := (Array.getElem?_eq_some_iff.1 h.h5).1
  have l6 := (Array.getElem?_eq_some_iff.1 hL.h6).1
  have lg := (Array.getElem?_eq_some_iff.1 hL.hg).1
  exact ⟨hb, by omega, by omega, by omega, by omega, by omega, fun k hk => by have := (own_lt h.ow hk).1; omega, fun k hk => by have := (own_lt h.oi hk).1; omega⟩
/-- The new instruction's variable is filled. -/
theorem Cst.put8 {W0 w wr : World} {br : Nat} {A : Option Addr} {c : Nat} {B : List Int} {q b2 b5 : Nat} {vW : Value} {ws : List Int} {rg : Int} {vI : Value} {xs : List S39} {b6 g cap : Nat} {cur : Array Value} {b8 : Nat} (h : Cst W0 w wr br A c B q b2 b5 vW ws rg vI xs) (hL : Lst wr br b6 g cap cur) (hf : Fresh w br b2 b5 b6 g vW vI b8) {v0 v1 v2 v3 v4 : Value} (hb : wr.heap[b8]? = some (.cells #[v0, v1, v2, v3, v4] 39 (0, 0))) (x0 x1 x2 x3 x4 : Value) (w' : World) (hw' : w' = ((((wr.setCell ⟨b8, 0, none⟩ x0).setCell ⟨b8, 1, none⟩ x1).setCell ⟨b8, 2, none⟩ x2).setCell ⟨b8, 3, none⟩ x3).setCell ⟨b8, 4, none⟩ x4) :
    Cst W0 w w' br A c B q b2 b5 vW ws rg vI xs ∧ Lst w' br b6 g cap cur ∧ w'.heap[b8]? = some (.cells #[x0, x1, x2, x3, x4] 39 (0, 0)) := by
  subst hw'
  have hc := fun (wr : World) (h : Cst W0 w wr br A c B q b2 b5 vW ws rg vI xs) j v => h.other b8 hf.le hf.n2 hf.n5 hf.nW hf.nI j v
  have hl := fun (wr : World) (h : Lst wr br b6 g cap cur) j v => h.other b8 hf.n6 hf.ng j v
  refine ⟨hc _ (hc _ (hc _ (hc _ (hc _ h _ _) _ _) _ _) _ _) _ _, hl _ (hl _ (hl _ (hl _ (hl _ hL _ _) _ _) _ _) _ _) _ _, ?_⟩
  have h1 := Go.Joins.block_setCell (i := 0) hb x0
  have h2 := Go.Joins.block_setCell (i := 1) h1 x1
  have h3 := Go.Joins.block_setCell (i := 2) h2 x2
  have h4 := Go.Joins.block_setCell (i := 3) h3 x3
  have h5 := Go.Joins.block_setCell (i := 4) h4 x4
  rw [h5]
  rfl

end Go.Proofs.Ytdecgknnbegobaa.Cd
