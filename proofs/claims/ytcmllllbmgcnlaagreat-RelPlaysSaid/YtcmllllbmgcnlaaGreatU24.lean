/- Own texts, joined and cut to what the claim stands on: ChOrd, ChRefLeast, ChRefLeast2, ChChains, ChChains2, ChMore. -/
import Derived.Deep.QuietTactic
import Derived.WalkMore
import Derived.Test.YtcmllllbmgcnlaaGreatU23
import Derived.Test.YtcmllllbmgcnlaaGreatU22
import Derived.Test.YtcmllllbmgcnlaaGreatU21
section
namespace Go.Proofs.YtcmllllbmgcnlaaGreat.Ch
open Go.RowKit Go.Lib Go.Proofs.YtcmllllbmgcnlaaGreat.G Go.Proofs.YtcmllllbmgcnlaaGreat.Tup Go.Proofs.YtcmllllbmgcnlaaGreatW.PrintWords
set_option linter.unusedVariables false
set_option linter.unusedSimpArgs false
def In (x y : Int) : Prop := Go.bits .and .i64 x y = x
structure ChainsOk (l : List Int) (rows : List (List Int)) : Prop where
 least : LeastIs l rows.length
 all : ∀ x, Un l x → ∃ r ∈ rows, x ∈ r
 of : ∀ r ∈ rows, ∀ x ∈ r, Un l x
 up : ∀ r ∈ rows, r.Pairwise In
 short : ∀ r ∈ rows, r.length ≤ l.length
theorem in_bits {x y : Int} (h1 : 0 ≤ x) (h2 : x < 256) (h3 : 0 ≤ y) (h4 : y < 256) : In x y ↔ ∀ j, x.toNat.testBit j = true → y.toNat.testBit j = true := by
 unfold In
 rw [i64_and x y h1 h2 h3 h4]
 constructor
 ·intro h j hj
  have e : x.toNat &&& y.toNat = x.toNat := by omega
  rw [← e, Nat.testBit_and] at hj
  simp at hj
  exact hj.2
 ·intro h
  have e : x.toNat &&& y.toNat = x.toNat := by
   apply Nat.eq_of_testBit_eq
   intro j
   rw [Nat.testBit_and]
   cases hj : x.toNat.testBit j with
   | false => rfl
   | true => rw [h j hj]; rfl
  rw [e]; omega
theorem In.trans {x y z : Int} (hx : 0 ≤ x ∧ x < 256) (hy : 0 ≤ y ∧ y < 256) (hz : 0 ≤ z ∧ z < 256) (h : In x y) (k : In y z) : In x z :=
 (in_bits hx.1 hx.2 hz.1 hz.2).2 fun j hj => (in_bits hy.1 hy.2 hz.1 hz.2).1 k j ((in_bits hx.1 hx.2 hy.1 hy.2).1 h j hj)
section
variable {n : Nat} {u : List Int} {tt fr : Nat → Int}
def chHeads (n : Nat) (tt : Nat → Int) : List Nat := (List.range n).filter fun i => !decide ((i : Int) ∈ (List.range n).map tt)
def chRow (u : List Int) (n : Nat) (tt : Nat → Int) (k : Int) : List Int := (rowFrom tt n k).map fun k => u[k]!
def chRows (u : List Int) (n : Nat) (tt : Nat → Int) : List (List Int) := (chHeads n tt).map fun i : Nat => chRow u n tt i
theorem head_free (hm : Mt n (Ed fun k => u[k]!) (-1) tt fr) (i : Nat) (hi : i < n) : (i : Int) ∈ (List.range n).map tt ↔ 0 ≤ fr i := by
 rw [List.mem_map]
 constructor
 ·rintro ⟨s, hs, e⟩
  have := hm.tf s (List.mem_range.1 hs) i e
  omega
 ·intro h
  obtain ⟨s, hs, e⟩ := (hm.rf i hi).pos h
  exact ⟨s, List.mem_range.2 hs, hm.ft i hi (by omega) s e⟩
theorem heads_eq (hm : Mt n (Ed fun k => u[k]!) (-1) tt fr) : chHeads n tt = (List.range n).filter fun k => decide (fr k < 0) := by
 unfold chHeads
 refine List.filter_congr fun i hi => ?_
 have := head_free hm i (List.mem_range.1 hi)
 by_cases h : 0 ≤ fr i
 ·rw [decide_eq_true (this.2 h), decide_eq_false (by omega)]; rfl
 ·rw [decide_eq_false fun hc => h (this.1 hc), decide_eq_true (by omega)]; rfl
theorem rowFrom_lt (hm : Mt n (Ed fun k => u[k]!) (-1) tt fr) : ∀ (f : Nat) (k : Int), Pl n k → ∀ j ∈ rowFrom tt f k, j < n
 | 0, _, _, j, h => by simp [rowFrom] at h
 | f + 1, k, hk, j, h => by
  unfold rowFrom at h
  by_cases h0 : k < 0
  ·rw [if_pos h0] at h; simp at h
  ·rw [if_neg h0] at h
   obtain ⟨q, hq, rfl⟩ := hk.pos (by omega)
   rcases List.mem_cons.1 h with rfl | h
   ·simpa using hq
   ·exact rowFrom_lt hm f _ (hm.rt _ (by simpa using hq)) j h
theorem rowFrom_up (hu : n = u.length) (h8 : ∀ x ∈ u, 0 ≤ x ∧ x < 256) (hm : Mt n (Ed fun k => u[k]!) (-1) tt fr) : ∀ (f : Nat) (k : Int), Pl n k → (rowFrom tt f k).Pairwise (fun a b => In u[a]! u[b]!) ∧ ∀ q : Nat, k = q → ∀ j ∈ rowFrom tt f k, j = q ∨ In u[q]! u[j]!
 | 0, _, _ => by simp [rowFrom]
 | f + 1, k, hk => by
  unfold rowFrom
  by_cases h0 : k < 0
  ·rw [if_pos h0]; simp
  ·rw [if_neg h0]
   obtain ⟨q, hq, rfl⟩ := hk.pos (by omega)
   rw [Int.toNat_natCast]
   have hb : ∀ j, j < n → 0 ≤ u[j]! ∧ u[j]! < 256 := fun j hj => by
    rw [getElem!_pos u j (by omega)]; exact h8 _ (List.getElem_mem _)
   obtain ⟨ih1, ih2⟩ := rowFrom_up hu h8 hm f (tt q) (hm.rt q hq)
   have hin : ∀ j ∈ rowFrom tt f (tt q), In u[q]! u[j]! := fun j hj => by
    rcases hm.rt q hq with e | ⟨p, hp, e⟩
    ·rw [rowFrom_neg _ _ _ (by omega)] at hj; simp at hj
    ·have hE := (hm.tf q hq p e).2.1.2
     rcases ih2 p e j hj with rfl | h
     ·exact hE
     ·exact In.trans (hb q hq) (hb p hp) (hb j (rowFrom_lt hm f _ (hm.rt q hq) j hj)) hE h
   refine ⟨List.pairwise_cons.2 ⟨hin, ih1⟩, fun q' e j hj => ?_⟩
   have : q' = q := by omega
   subst this
   rcases List.mem_cons.1 hj with rfl | hj
   ·exact .inl rfl
   ·exact .inr (hin j hj)
theorem rowFrom_len (tt : Nat → Int) : ∀ (f : Nat) (k : Int), (rowFrom tt f k).length ≤ f
 | 0, _ => Nat.le_refl _
 | f + 1, k => by
  unfold rowFrom
  by_cases h : k < 0
  ·rw [if_pos h]; simp
  ·rw [if_neg h]
   have := rowFrom_len tt f (tt k.toNat)
   simp only [List.length_cons]; omega
theorem chRow_len (u : List Int) (n : Nat) (tt : Nat → Int) (k : Int) : (chRow u n tt k).length ≤ n := by
 unfold chRow
 rw [List.length_map]; exact rowFrom_len tt n k
theorem chains_ok {l : List Int} (h8 : ∀ x ∈ l, 0 ≤ x ∧ x < 256) (hu : u = unS l) (hn : n = u.length) (h : NextO n (Ed fun k => u[k]!) tt fr n) :
  ChainsOk l (if (chRows u n tt).length = 0 then [[]] else chRows u n tt) := by
 have hs := unS_spec l
 have hsort := unS_sorted l
 rw [← hu] at hs hsort
 have hu8 : ∀ x ∈ u, 0 ≤ x ∧ x < 256 := fun x hx => h8 x ((hs.2.1 x).1 hx).1
 have hm := h.1
 have hup : ∀ s k, s < n → k < n → Ed (fun k => u[k]!) s k → s < k := fun s k hs hk he => edge_up hsort hu8 (by omega) (by omega) he
 obtain ⟨F, D, hf⟩ := nextO_fin h
 have hlen : (chRows u n tt).length = F.length := by
  have := hf.free_length
  unfold chRows
  rw [List.length_map, heads_eq hm]; exact this
 have hL : LeastIs l (max F.length 1) := by
  subst hn
  have := least_of hs.1 hs.2.1 hf.most
  have hd := hf.dom_length
  have e : u.length - (u.length - F.length) = F.length := by omega
  rw [e] at this; exact this
 have hall : ∀ x, Un l x → ∃ r ∈ chRows u n tt, x ∈ r := fun x hx => by
  obtain ⟨j, hj, rfl⟩ := List.getElem_of_mem ((hs.2.1 x).2 hx)
  obtain ⟨i, pre, hi, hfi, e⟩ := in_row hm hup j (by omega)
  refine ⟨_, List.mem_map.2 ⟨i, ?_, rfl⟩, ?_⟩
  ·rw [heads_eq hm, List.mem_filter, List.mem_range]; exact ⟨hi, by simpa using hfi⟩
  ·unfold chRow
   rw [e, rowFrom_step hm hup j (by omega)]
   rw [List.map_append, List.map_cons, getElem!_pos u j hj]
   simp
 have hof : ∀ r ∈ chRows u n tt, ∀ x ∈ r, Un l x := fun r hr x hx => by
  obtain ⟨i, hi, rfl⟩ := List.mem_map.1 hr
  obtain ⟨k, hk, rfl⟩ := List.mem_map.1 hx
  have hin : i < n := by have := (List.mem_filter.1 hi).1; simpa using this
  have := rowFrom_lt hm n i (.inr ⟨i, hin, rfl⟩) k hk
  rw [getElem!_pos u k (by omega)]
  exact (hs.2.1 _).1 (List.getElem_mem _)
 have hupw : ∀ r ∈ chRows u n tt, r.Pairwise In := fun r hr => by
  obtain ⟨i, hi, rfl⟩ := List.mem_map.1 hr
  have hin : i < n := by have := (List.mem_filter.1 hi).1; simpa using this
  unfold chRow
  rw [List.pairwise_map]
  exact (rowFrom_up hn hu8 hm n i (.inr ⟨i, hin, rfl⟩)).1
 have hsh : ∀ r ∈ chRows u n tt, r.length ≤ l.length := fun r hr => by
  obtain ⟨i, hi, rfl⟩ := List.mem_map.1 hr
  have := chRow_len u n tt i
  have := hs.2.2
  omega
 by_cases h0 : (chRows u n tt).length = 0
 ·rw [if_pos h0]
  have e : chRows u n tt = [] := List.length_eq_zero_iff.1 h0
  rw [hlen] at h0
  rw [e] at hall
  refine ⟨by rw [h0] at hL; exact hL, fun x hx => ?_, fun r hr x hx => ?_, fun r hr => ?_, fun r hr => by rw [List.mem_singleton] at hr; subst hr; simp⟩
  ·obtain ⟨r, hr, _⟩ := hall x hx; simp at hr
  ·rw [List.mem_singleton] at hr; subst hr; simp at hx
  ·rw [List.mem_singleton] at hr; subst hr; simp
 ·rw [if_neg h0]
  refine ⟨?_, hall, hof, hupw, hsh⟩
  rw [hlen] at h0 ⊢
  rwa [show max F.length 1 = F.length by omega] at hL
end
def addC (s : Int) (o : List Int) : Nat → List Int
 | 0 => o
 | c + 1 => if Go.bits .and .i64 (shr .i64 s (c : Int)) 1 = 1 ∧ (c : Int) ∉ addC s o c then addC s o c ++ [(c : Int)] else addC s o c
def ordF (w : Nat) (o : List Int) (row : List Int) : List Int := row.foldl (fun o s => addC s o w) o
def ordOf (w : Nat) (row : List Int) : List Int := ordF w [] (row ++ [2 ^ w - 1])
structure Has (w m : Nat) (o : List Int) : Prop where
 nodup : o.Nodup
 mem : ∀ x, x ∈ o ↔ 0 ≤ x ∧ x < (w : Int) ∧ m.testBit x.toNat = true
theorem addC_spec {w m m0 : Nat} {o : List Int} (hw : w ≤ 8) (hm : m < 256) (h : Has w m0 o) (hs : ∀ j, m0.testBit j = true → m.testBit j = true) : ∀ c, c ≤ w →
  (addC (m : Int) o c).Nodup ∧ (∃ q, addC (m : Int) o c = o ++ q) ∧ ∀ x, x ∈ addC (m : Int) o c ↔ x ∈ o ∨ (0 ≤ x ∧ x < (c : Int) ∧ m.testBit x.toNat = true)
 | 0, _ => ⟨h.nodup, ⟨[], by simp [addC]⟩, fun x => by simp only [addC]; constructor; exact .inl; rintro (h | h); exact h; omega⟩
 | c + 1, hc => by
  obtain ⟨h1, ⟨q, h2⟩, h3⟩ := addC_spec hw hm h hs c (by omega)
  unfold addC
  have hbt := bit_test m hm c (by omega)
  by_cases hx : m.testBit c = true ∧ (c : Int) ∉ addC (m : Int) o c
  ·rw [if_pos ⟨hbt.2 hx.1, hx.2⟩]
   refine ⟨?_, ⟨q ++ [(c : Int)], by rw [h2, List.append_assoc]⟩, fun x => ?_⟩
   ·rw [List.nodup_append]
    exact ⟨h1, by simp, fun a ha b hb e => by rw [List.mem_singleton] at hb; subst hb; subst e; exact hx.2 ha⟩
   ·rw [List.mem_append, h3, List.mem_singleton]
    constructor
    ·rintro ((h | ⟨h4, h5, h6⟩) | rfl)
     ·exact .inl h
     ·exact .inr ⟨h4, by omega, h6⟩
     ·exact .inr ⟨by omega, by omega, by simpa using hx.1⟩
    ·rintro (h | ⟨h4, h5, h6⟩)
     ·exact .inl (.inl h)
     ·by_cases e : x = (c : Int)
      ·exact .inr e
      ·exact .inl (.inr ⟨h4, by omega, h6⟩)
  ·rw [if_neg fun hc' => hx ⟨hbt.1 hc'.1, hc'.2⟩]
   refine ⟨h1, ⟨q, h2⟩, fun x => ?_⟩
   rw [h3]
   constructor
   ·rintro (h | ⟨h4, h5, h6⟩)
    ·exact .inl h
    ·exact .inr ⟨h4, by omega, h6⟩
   ·rintro (h | ⟨h4, h5, h6⟩)
    ·exact .inl h
    ·by_cases e : x = (c : Int)
     ·subst e
      have hn : (c : Int) ∈ addC (m : Int) o c := Classical.byContradiction fun hc' => hx ⟨by simpa using h6, hc'⟩
      exact (h3 _).1 hn
     ·exact .inr ⟨h4, by omega, h6⟩
theorem addC_has {w m m0 : Nat} {o : List Int} (hw : w ≤ 8) (hm : m < 256) (h : Has w m0 o) (hs : ∀ j, m0.testBit j = true → m.testBit j = true) : Has w m (addC (m : Int) o w) ∧ ∃ q, addC (m : Int) o w = o ++ q := by
 obtain ⟨h1, h2, h3⟩ := addC_spec hw hm h hs w (Nat.le_refl _)
 refine ⟨⟨h1, fun x => ?_⟩, h2⟩
 rw [h3]
 constructor
 ·rintro (h4 | h4)
  ·obtain ⟨a, b, c⟩ := (h.mem x).1 h4
   exact ⟨a, b, hs _ c⟩
  ·exact h4
 ·exact .inr
theorem ordF_row {w : Nat} (hw : w ≤ 8) : ∀ (row : List Int) (m0 : Nat) (o : List Int), m0 < 256 → (∀ x ∈ row, 0 ≤ x ∧ x < 256) → ((m0 : Int) :: row).Pairwise In → Has w m0 o →
  (∃ q, ordF w o row = o ++ q) ∧ (∀ s ∈ row, ∃ p q, ordF w o row = p ++ q ∧ Has w s.toNat p) ∧ ∃ m : Nat, m < 256 ∧ Has w m (ordF w o row) ∧ ((m : Int) = m0 ∨ (m : Int) ∈ row)
 | [], m0, o, h0, _, _, h => ⟨⟨[], by simp [ordF]⟩, by simp, m0, h0, h, .inl rfl⟩
 | s :: row, m0, o, h0, h8, hp, h => by
  have hs8 := h8 s (by simp)
  obtain ⟨hp1, hp2⟩ := List.pairwise_cons.1 hp
  have hin := hp1 s (by simp)
  obtain ⟨m, rfl⟩ := Int.eq_ofNat_of_zero_le hs8.1
  have hsub := (in_bits (Int.natCast_nonneg m0) (by omega) hs8.1 hs8.2).1 hin
  simp only [Int.toNat_natCast] at hsub
  obtain ⟨a1, q0, a2⟩ := addC_has hw (by omega) h hsub
  obtain ⟨⟨q, b1⟩, b2, m', b3, b4, b5⟩ := ordF_row hw row m (addC (m : Int) o w) (by omega) (fun x hx => h8 x (by simp [hx])) hp2 a1
  have e : ordF w o ((m : Int) :: row) = ordF w (addC (m : Int) o w) row := rfl
  refine ⟨⟨q0 ++ q, by rw [e, b1, a2, List.append_assoc]⟩, fun s hs => ?_, m', b3, by rw [e]; exact b4, .inr ?_⟩
  ·rcases List.mem_cons.1 hs with rfl | hs
   ·exact ⟨_, q, by rw [e]; exact b1, by simpa using a1⟩
   ·rw [e]; exact b2 s hs
  ·rcases b5 with h | h
   ·rw [h]; simp
   ·simp [h]
theorem orL_bits : ∀ (o : List Int) (m j : Nat), (∀ c ∈ o, 0 ≤ c) → ((orL o m).testBit j = true ↔ m.testBit j = true ∨ (j : Int) ∈ o)
 | [], m, j, _ => by simp [orL]
 | c :: o, m, j, h => by
  rw [orL, orL_bits o _ j (fun x hx => h x (by simp [hx])), test_set, List.mem_cons]
  have := h c (by simp)
  constructor
  ·rintro ((h | h) | h)
   ·exact .inl h
   ·exact .inr (.inl (by omega))
   ·exact .inr (.inr h)
  ·rintro (h | h | h)
   ·exact .inl (.inl h)
   ·exact .inl (.inr (by omega))
   ·exact .inr h
theorem testBit_lt {m w j : Nat} (hm : m < 2 ^ w) (h : m.testBit j = true) : j < w := by
 refine Classical.byContradiction fun hc => ?_
 have : m < 2 ^ j := Nat.lt_of_lt_of_le hm (Nat.pow_le_pow_right (by decide) (by omega))
 rw [Nat.testBit_lt_two_pow this] at h
 cases h
theorem has_orL {w m : Nat} {p : List Int} (hw : w ≤ 8) (hm : m < 2 ^ w) (h : Has w m p) : orL p 0 = m ∧ popN m = p.length := by
 have h256 : m < 256 := Nat.lt_of_lt_of_le hm (Nat.pow_le_pow_right (n := 2) (i := w) (j := 8) (by decide) hw)
 have h0 : ∀ c ∈ p, 0 ≤ c := fun c hc => ((h.mem c).1 hc).1
 have e : orL p 0 = m := by
  apply Nat.eq_of_testBit_eq
  intro j
  have := orL_bits p 0 j h0
  cases hj : m.testBit j with
  | true => rw [this, h.mem]; exact .inr ⟨by omega, by have := testBit_lt hm hj; omega, by simpa using hj⟩
  | false =>
   cases hq : (orL p 0).testBit j with
   | false => rfl
   | true =>
    rcases this.1 hq with h1 | h1
    ·simp at h1
    ·have := ((h.mem _).1 h1).2.2
     simp [hj] at this
 refine ⟨e, ?_⟩
 have := pop_orL p (fun c hc => by obtain ⟨a, b, _⟩ := (h.mem c).1 hc; omega) h.nodup 0 (by decide) (fun c _ => by simp)
 rw [e] at this
 rw [this]
 have : popN 0 = 0 := by decide
 omega
theorem has_zero (w : Nat) : Has w 0 [] := ⟨List.nodup_nil, fun x => by simp⟩
theorem has_full {w : Nat} {o : List Int} (hw : w ≤ 8) (h : Has w (2 ^ w - 1) o) : o.length = w ∧ Rt o := by
 have hb : ∀ j, (2 ^ w - 1).testBit j = decide (j < w) := fun j => Nat.testBit_two_pow_sub_one w j
 have hmem : ∀ x, x ∈ o ↔ 0 ≤ x ∧ x < (w : Int) := fun x => by
  rw [h.mem, hb]
  constructor
  ·rintro ⟨a, b, _⟩; exact ⟨a, b⟩
  ·rintro ⟨a, b⟩; exact ⟨a, b, by simp; omega⟩
 have e : o.length = w := by
  have := eq_of_nodup h.nodup (upto_nodup w) fun x => (hmem x).trans mem_upto.symm
  rw [this, upto_len]
 exact ⟨e, by omega, fun c hc => by rw [e]; exact (hmem c).1 hc, h.nodup⟩
theorem ordOf_spec {w : Nat} (hw : w ≤ 8) {row : List Int} (h8 : ∀ x ∈ row, 0 ≤ x ∧ x < 2 ^ w) (hp : row.Pairwise In) :
  (ordOf w row).length = w ∧ Rt (ordOf w row) ∧ ∀ s, s = 0 ∨ s ∈ row → (coverS (ordOf w row) s).2 = true := by
 have hpw : (2 : Int) ^ w ≤ 256 := pow_le_8 w hw
 have hpp : (0 : Int) < 2 ^ w := Int.pow_pos (by decide)
 have hcast : ((2 ^ w - 1 : Nat) : Int) = 2 ^ w - 1 := by
  have h1 : 1 ≤ (2 : Nat) ^ w := Nat.one_le_two_pow
  have h2 : ((2 ^ w : Nat) : Int) = (2 : Int) ^ w := by simp
  omega
 have hN : ∀ s : Int, 0 ≤ s → s < 2 ^ w → s.toNat < 2 ^ w := fun s h1 h2 => by
  have h3 : ((2 ^ w : Nat) : Int) = (2 : Int) ^ w := by simp
  omega
 have h82 : ∀ x ∈ row ++ [(2 : Int) ^ w - 1], 0 ≤ x ∧ x < 256 := fun x hx => by
  rcases List.mem_append.1 hx with hx | hx
  ·have := h8 x hx; omega
  ·rw [List.mem_singleton] at hx; omega
 have hp2 : (((0 : Nat) : Int) :: (row ++ [(2 : Int) ^ w - 1])).Pairwise In := by
  rw [List.pairwise_cons, List.pairwise_append]
  refine ⟨fun x hx => ?_, hp, by simp, fun a ha b hb => ?_⟩
  ·have := h82 x hx
   exact (in_bits (by omega) (by omega) this.1 this.2).2 fun j hj => by simp at hj
  ·rw [List.mem_singleton] at hb
   have h1 := h8 a ha
   have h2 := h82 b (by simp [hb])
   refine (in_bits h1.1 (by omega) h2.1 h2.2).2 fun j hj => ?_
   have h3 : b.toNat = 2 ^ w - 1 := by omega
   rw [h3, Nat.testBit_two_pow_sub_one]
   simpa using testBit_lt (hN a h1.1 h1.2) hj
 obtain ⟨_, h1, _⟩ := ordF_row hw (row ++ [(2 : Int) ^ w - 1]) 0 [] (by decide) h82 hp2 (has_zero w)
 have hfull : Has w (2 ^ w - 1) (ordOf w row) := by
  have : ordF w [] (row ++ [(2 : Int) ^ w - 1]) = addC (2 ^ w - 1) (ordF w [] row) w := by simp [ordF]
  have hp3 : (((0 : Nat) : Int) :: row).Pairwise In := by
   rw [← List.cons_append] at hp2
   exact (List.pairwise_append.1 hp2).1
  obtain ⟨_, _, m, hm, hH, hmr⟩ := ordF_row hw row 0 [] (by decide) (fun x hx => h82 x (by simp [hx])) hp3 (has_zero w)
  have hmlt : m < 2 ^ w := by
   rcases hmr with h | h
   ·have : m = 0 := by omega
    subst this; exact Nat.pow_pos (by decide)
   ·have := h8 _ h
    have := hN m this.1 this.2
    simpa using this
  have h3 := (addC_has (m := 2 ^ w - 1) hw (by have : (2 : Nat) ^ w ≤ 256 := Nat.pow_le_pow_right (n := 2) (i := w) (j := 8) (by decide) hw; omega) hH (fun j hj => by
   rw [Nat.testBit_two_pow_sub_one]; simpa using testBit_lt hmlt hj)).1
  rw [hcast] at h3
  unfold ordOf
  rw [this]; exact h3
 obtain ⟨f1, f2⟩ := has_full hw hfull
 refine ⟨f1, f2, fun s hs => ?_⟩
 have hpre : ∃ p q, ordOf w row = p ++ q ∧ Has w s.toNat p ∧ 0 ≤ s ∧ s < 2 ^ w := by
  rcases hs with rfl | hs
  ·exact ⟨[], _, rfl, has_zero w, Int.le_refl _, hpp⟩
  ·obtain ⟨p, q, e, hH⟩ := h1 s (List.mem_append_left _ hs)
   exact ⟨p, q, e, hH, h8 s hs⟩
 obtain ⟨p, q, e, hH, h0, hlt⟩ := hpre
 obtain ⟨a, b⟩ := has_orL hw (hN s h0 hlt) hH
 unfold coverS
 rw [if_pos ⟨f2, h0, by rw [f1]; exact hlt⟩, e, b]
 have : List.take p.length (p ++ q) = p := by simp
 rw [this, a, if_pos rfl]
theorem pickS_some {s : Int} : ∀ (os : List (List Int)) (i : Nat), (∃ o ∈ os, (coverS o s).2 = true) → (pickS s i os).2 = true
 | [], _, h => by obtain ⟨o, h, _⟩ := h; simp at h
 | o :: os, i, h => by
  unfold pickS
  by_cases hc : (coverS o s).2 = true
  ·rw [if_pos hc]
  ·rw [if_neg hc]
   refine pickS_some os (i + 1) ?_
   obtain ⟨p, hp, h⟩ := h
   rcases List.mem_cons.1 hp with rfl | hp
   ·exact absurd h hc
   ·exact ⟨p, hp, h⟩
theorem orders_serve {w : Nat} (hw : w ≤ 8) {l : List Int} {rows : List (List Int)} (h8 : ∀ x ∈ l, 0 ≤ x ∧ x < 2 ^ w) (h : ChainsOk l rows) :
  LeastIs l (rows.map (ordOf w)).length ∧ (∀ o ∈ rows.map (ordOf w), o.length = w ∧ Rt o) ∧ ∀ s ∈ l, (pickS s 0 (rows.map (ordOf w))).2 = true := by
 have hr : ∀ r ∈ rows, ∀ x ∈ r, 0 ≤ x ∧ x < 2 ^ w := fun r hr x hx => h8 x (h.of r hr x hx).1
 refine ⟨by rw [List.length_map]; exact h.least, fun o ho => ?_, fun s hs => pickS_some _ _ ?_⟩
 ·obtain ⟨r, hr', rfl⟩ := List.mem_map.1 ho
  have := ordOf_spec hw (hr r hr') (h.up r hr')
  exact ⟨this.1, this.2.1⟩
 ·by_cases h0 : s = 0
  ·have hne : rows ≠ [] := fun e => by
    subst e
    obtain ⟨_, _, _, _, _, h1⟩ := h.least
    simp at h1; omega
   obtain ⟨r, hr'⟩ := List.exists_mem_of_ne_nil _ hne
   exact ⟨_, List.mem_map.2 ⟨r, hr', rfl⟩, (ordOf_spec hw (hr r hr') (h.up r hr')).2.2 s (.inl h0)⟩
  ·obtain ⟨r, hr', hx⟩ := h.all s ⟨hs, h0⟩
   exact ⟨_, List.mem_map.2 ⟨r, hr', rfl⟩, (ordOf_spec hw (hr r hr') (h.up r hr')).2.2 s (.inr hx)⟩
end Go.Proofs.YtcmllllbmgcnlaaGreat.Ch
end
section
namespace Go.Proofs.YtcmllllbmgcnlaaGreat.Ch
open Go.RowKit Go.Deep Go.Proofs.YtcmllllbmgcnlaaGreat.G Go.Proofs.YtcmllllbmgcnlaaGreat.Tup Go.Proofs.YtcmllllbmgcnlaaGreatW.PrintWords Go.Proofs.YtcmllllbmgcnlaaGreatW.PrintLast Go.Proofs.YtcmllllbmgcnlaaGreatW.PrintMore
set_option linter.unusedVariables false
set_option linter.unusedSimpArgs false
theorem info4 : (Tryz.prog.info? 4).map (fun i => (i.zero, i.size, i.bytes)) = some (some (.bool false), 1, 1) := by kernel_rfl
theorem r_cells {w : World} {base : Nat} {ok : Nat → Prop} {v : Value} {r : List Int} (h : Kd.R (Kd.int .i64) 3 w base ok v r) :
  ∃ A c ba, v = .slice A r.length c ∧ r.length ≤ c ∧ ba < w.heap.size + 1 ∧ (0 < r.length → ba < w.heap.size) ∧ ∀ k, k < r.length → A = some ⟨ba, 0, none⟩ ∧ w.cell? ⟨ba, 0 + k, none⟩ = some (.int .i64 r[k]!) := by
 obtain ⟨A, c, rfl, hs⟩ := R_sl h
 by_cases hp : 0 < r.length
 ·obtain ⟨g, cap, e, hb, hl, _⟩ := Kd.R_form h hp
  injection e with e1 e2 e3
  subst e1
  refine ⟨_, c, g, rfl, hs.le, by omega, fun _ => hl, fun k hk => ⟨rfl, ?_⟩⟩
  obtain ⟨ad, e, hc⟩ := sl_cells hs k hk
  injection e with e
  subst e
  rw [getElem!_pos r k hk]
  by_cases e0 : k = 0
  ·subst e0; simpa [Addr.add] using hc
  ·simpa [Addr.add, e0] using hc
 ·exact ⟨A, c, w.heap.size, rfl, hs.le, by omega, fun h => absurd h hp, fun k hk => absurd hk (by omega)⟩
def stf (A : Option Addr) (n c bp : Nat) (v2 : Value) : Nat → Value := fun j => if j = 0 then .slice A n c else if j = 1 then .slice (some ⟨bp, 0, none⟩) n n else v2
structure LW (n : Nat) (A : Option Addr) (c ba N : Nat) (lv : Nat → Int) (w1 : World) (wr : World) (pr : Nat → Int) : Prop where
 below : Below N w1 wr
 sz : w1.heap.size = N
 rb : ∃ v2, wr.rowIs (N + 1) 162 3 (stf A n c N v2)
 rp : wr.rowIs N 3 n (fun k => .int .i64 (pr k))
 la : ∀ k, k < n → A = some ⟨ba, 0, none⟩ ∧ w1.cell? ⟨ba, 0 + k, none⟩ = some (.int .i64 (lv k))
 lb : 0 < n → ba < N
theorem below_two {N bs : Nat} {w1 wr w2 : World} (h : Below N w1 wr) (hb : N ≤ bs) (t : Two2 N bs wr w2) : Below N w1 w2 :=
 ⟨t.os.trans h.os, t.tape.trans h.tape, t.output.trans h.output, by rw [t.size]; exact h.size, fun k hk => (t.block k (by omega) (by omega)).trans (h.block k hk)⟩
section
variable {n : Nat} {A : Option Addr} {c ba N : Nat} {lv : Nat → Int} {w1 wr w2 : World} {pr pr' : Nat → Int} {sn' : Nat → Bool}
theorem LW.see (h : LW n A c ba N lv w1 wr pr) : MW n A c ba 0 (N + 1) N wr.heap.size lv ((wr.alloc (.cells (madeCells #[.bool false] n) 4)).setCell ⟨N + 1, 2, none⟩ (.slice (some ⟨wr.heap.size, 0, none⟩) n n)) pr (fun _ => false) := by
 obtain ⟨v2, h1⟩ := h.rb
 have hlt := h1.lt
 have hs := (h1.alloc (.cells (madeCells #[.bool false] n) 4)).set 2 (.slice (some ⟨wr.heap.size, 0, none⟩) n n)
 refine ⟨by simpa [stf] using hs.cell (i := 0) (by omega), by simpa [stf] using hs.cell (i := 1) (by omega), by simpa [stf] using hs.cell (i := 2) (by omega), ?_, ?_, fun k hk => ⟨(h.la k hk).1, ?_⟩, ?_, ?_, fun hp => ?_⟩
 ·exact (h.rp.alloc _).setOther (by show N ≠ N + 1; omega) _
 ·exact (World.rowIs_made wr (.bool false) n 4).setOther (by show wr.heap.size ≠ N + 1; omega) _
 ·rw [cell_ne _ _ (by show ba ≠ N + 1; have := h.lb (by omega); omega)]
  have hb : Below N w1 (wr.alloc (.cells (madeCells #[.bool false] n) 4)) := h.below.alloc (by omega) _
  rw [hb.cell (p := ⟨ba, 0 + k, none⟩) (h.lb (by omega))]
  exact (h.la k hk).2
 ·omega
 ·exact ⟨by omega, by omega⟩
 ·have := h.lb hp; exact ⟨by omega, by omega⟩
theorem LW.back (h : LW n A c ba N lv w1 wr pr) {wm : World} (hwm : wm = (wr.alloc (.cells (madeCells #[.bool false] n) 4)).setCell ⟨N + 1, 2, none⟩ (.slice (some ⟨wr.heap.size, 0, none⟩) n n)) (t : Two2 N wr.heap.size wm w2) (m : MW n A c ba 0 (N + 1) N wr.heap.size lv w2 pr' sn') : LW n A c ba N lv w1 w2 pr' := by
 obtain ⟨v2, h1⟩ := h.rb
 have hlt := h1.lt
 subst hwm
 have hb : Below N w1 ((wr.alloc (.cells (madeCells #[.bool false] n) 4)).setCell ⟨N + 1, 2, none⟩ (.slice (some ⟨wr.heap.size, 0, none⟩) n n)) := (h.below.alloc (by omega) _).setCell (by show N ≤ N + 1; omega) _
 refine ⟨below_two hb (by omega) t, h.sz, ⟨.slice (some ⟨wr.heap.size, 0, none⟩) n n, ?_⟩, m.rp, h.la, h.lb⟩
 refine (((h1.alloc _).set 2 _).congr (g := stf A n c N (.slice (some ⟨wr.heap.size, 0, none⟩) n n)) fun i hi => ?_).of_block (t.block (N + 1) (by omega) (by omega))
 unfold stf
 by_cases e : i = 2
 ·subst e; simp
 ·by_cases e0 : i = 0
  ·subst e0; simp
  ·by_cases e1 : i = 1
   ·subst e1; simp
   ·omega
theorem LW.put (h : LW n A c ba N lv w1 wr pr) (k : Nat) (v : Int) : LW n A c ba N lv w1 (wr.setCell ⟨N, k, none⟩ (.int .i64 v)) (put pr k v) := by
 obtain ⟨v2, h1⟩ := h.rb
 exact ⟨h.below.setCell (Nat.le_refl _) _, h.sz, ⟨v2, h1.setOther (by show N + 1 ≠ N; omega) _⟩, (h.rp.set k _).congr (fun j _ => by unfold Ch.put; by_cases e : j = k <;> simp [e]), h.la, h.lb⟩
end
end Go.Proofs.YtcmllllbmgcnlaaGreat.Ch
end
section
namespace Go.Proofs.YtcmllllbmgcnlaaGreat.Ch
open Go.RowKit Go.Deep Go.Proofs.YtcmllllbmgcnlaaGreat.G Go.Proofs.YtcmllllbmgcnlaaGreat.Tup Go.Proofs.YtcmllllbmgcnlaaGreatW.PrintWords Go.Proofs.YtcmllllbmgcnlaaGreatW.PrintLast Go.Proofs.YtcmllllbmgcnlaaGreatW.PrintMore
set_option linter.unusedVariables false
set_option linter.unusedSimpArgs false
def LeastR (l : List Int) (x y : Int) : Prop := y = wrongS 8 l ∧ (y ≠ 0 → x = 0) ∧ (y = 0 → ∃ n : Nat, LeastIs l n ∧ x = n)
theorem shr8 (x : Int) : shr .i64 x 8 = x / 256 := by
 have h : min ((8 : Int)).toNat IntKind.i64.bits = 8 := rfl
 unfold shr
 rw [h]
 rfl
theorem wrong_many {l : List Int} {w : Int} (h : 256 < l.length) : wrongS w l = 3 := by unfold wrongS; rw [if_pos h]
theorem wrong_bad {l : List Int} {w : Int} (h : l.length ≤ 256) (hb : Bad w l) : wrongS w l = 1 := by unfold wrongS; rw [if_neg (by omega), if_pos hb]
theorem wrong_ok {l : List Int} {w : Int} (h : l.length ≤ 256) (hb : ¬ Bad w l) : wrongS w l = 0 := by unfold wrongS; rw [if_neg (by omega), if_neg hb]
theorem lw_start {w1 : World} {u : List Int} {A : Option Addr} {c ba : Nat} (h : (0 < u.length → ba < w1.heap.size) ∧ ∀ k, k < u.length → A = some ⟨ba, 0, none⟩ ∧ w1.cell? ⟨ba, 0 + k, none⟩ = some (.int .i64 u[k]!)) :
  LW u.length A c ba w1.heap.size (fun k => u[k]!) w1 ((w1.alloc (.cells (madeCells #[.int .i64 0] u.length) 3)).alloc (.cells #[.slice A u.length c, .slice (some ⟨w1.heap.size, 0, none⟩) u.length u.length, .slice none 0 0] 162)) (fun _ => 0) := by
 refine ⟨((Below.refl _ w1).alloc (Nat.le_refl _) _).alloc (by simp) _, rfl, ⟨.slice none 0 0, ?_⟩, (World.rowIs_made w1 (.int .i64 0) u.length 3).alloc _, h.2, h.1⟩
 have := World.rowIs_alloc (w1.alloc (.cells (madeCells #[.int .i64 0] u.length) 3)) #[.slice A u.length c, .slice (some ⟨w1.heap.size, 0, none⟩) u.length u.length, .slice none 0 0] 162 (stf A u.length c w1.heap.size (.slice none 0 0)) (fun i hi => by
  have hi3 : i < 3 := hi
  rcases i with _ | _ | _ | i
  ·rfl
  ·rfl
  ·rfl
  ·omega)
 simpa using this
theorem LW.congr {n : Nat} {A : Option Addr} {c ba N : Nat} {lv : Nat → Int} {w1 wr : World} {pr pr' : Nat → Int} (h : LW n A c ba N lv w1 wr pr) (e : ∀ k, k < n → pr k = pr' k) : LW n A c ba N lv w1 wr pr' :=
 ⟨h.below, h.sz, h.rb, h.rp.congr fun k hk => by rw [e k hk], h.la, h.lb⟩
theorem least_end {l u : List Int} {F : List Nat} {pr : Nat → Int} (hu : u = unlR [] l) (h : RefO u.length (Ed fun k => u[k]!) pr u.length F) : LeastIs l (max F.length 1) := by
 obtain ⟨D, hf⟩ := refO_fin h
 have hs := unlR_spec l [] List.nodup_nil
 rw [← hu] at hs
 have := least_of (l := l) hs.1 (fun x => (hs.2.1 x).trans ⟨fun h => h.resolve_left (by simp), fun h => .inr h⟩) hf.most
 have hd := hf.dom_length
 have e : u.length - (u.length - F.length) = F.length := by omega
 rw [e] at this
 exact this
set_option maxHeartbeats 4000000 in
set_option maxRecDepth 100000 in
theorem rleast_many (A : Option Addr) (c : Nat) (l : List Int) (w : World) (h : Sl w A c l) (hn : 256 < l.length) :
  Calls Tryz.prog 81 #[.slice A l.length c] w fun e w' => (∃ x y, e = .returned (.tuple #[.int .i64 x, .int .i64 y]) ∧ LeastR l x y) ∧ Below w.heap.size w w' := by
 have hd : decide ((l.length : Int) > 256) = true := decide_eq_true (by omega)
 have hd2 : (l.length : Int) > 256 := by omega
 have HN := Aside0.mk hn
 clear h hn
 go_enter Tryz.func81, Tryz.ntmps81
 go_wp2
 go_ret2
 exact ⟨⟨0, 3, rfl, (wrong_many HN.out).symm, fun _ => rfl, fun h => absurd h (by decide)⟩, Below.refl _ _⟩
set_option maxHeartbeats 4000000 in
set_option maxRecDepth 100000 in
theorem rleast_few (A : Option Addr) (c : Nat) (l : List Int) (w : World) (h : Sl w A c l) (hn : l.length ≤ 256) :
  Calls Tryz.prog 81 #[.slice A l.length c] w fun e w' => (∃ x y, e = .returned (.tuple #[.int .i64 x, .int .i64 y]) ∧ LeastR l x y) ∧ Below w.heap.size w w' := by
 have HS := Aside0.mk h
 have HN := Aside0.mk hn
 obtain ⟨q, hq⟩ : ∃ q, q = l.length := ⟨_, rfl⟩
 rw [← hq]
 have HQ := Aside0.mk hq
 have hd : decide ((q : Int) > 256) = false := decide_eq_false (by omega)
 have hq256 : q ≤ 256 := by omega
 have HU : Aside0 (∀ m, Calls Tryz.prog 98 #[.slice A q c] (w.drewN m) fun e w' => ∃ v, e = .returned v ∧ Kd.R (Kd.int .i64) 3 w' w.heap.size (fun _ => True) v (unlR [] l) ∧ Below w.heap.size w w') := ⟨fun m => by
  rw [hq]
  refine (runlike_calls A c l (w.drewN m) (h.drewN m) (by omega)).mono ?_
  rintro e w' ⟨v, h1, h2, h3⟩
  exact ⟨v, h1, h2, (pw_below_drewN (Below.refl _ w) m).trans h3⟩⟩
 obtain ⟨u, hu⟩ : ∃ u, u = unlR [] l := ⟨_, rfl⟩
 rw [← hu] at HU
 have HUE := Aside0.mk hu
 have hul : u.length ≤ 256 := by have := (unlR_spec l [] List.nodup_nil).2.2; rw [← hu] at this; simp at this; omega
 clear h hn hq hu
 go_enter Tryz.func81, Tryz.ntmps81
 go_wp2_with fail
 go_loopg [4] q (fun gk v4 wr => ∃ (i m : Nat), v4 = .int .i64 (i : Int) ∧ Aside0 (i + gk = q) ∧ Aside0 (∀ j (hj : j < l.length), j < i → ¬ (l[j] < 0 ∨ shr .i64 l[j] 8 ≠ 0)) ∧ wr = w.drewN m)
 case atStart => exact ⟨0, 0, rfl, ⟨by omega⟩, ⟨fun j hj h => by omega⟩, (World.drewN_zero _).symm⟩
 case round =>
  obtain ⟨i, m, rfl, HI, HB, rfl⟩ := hrel
  by_cases hi : i < q
  ·have hid : decide (i < q) = true := decide_eq_true hi
   have hii : (i : Int) < (q : Int) := by omega
   have hil : i < l.length := by rw [← HQ.out]; exact hi
   obtain ⟨ad, rfl, hcell⟩ := sl_cells HS.out i hil
   obtain ⟨x, hx⟩ : ∃ x, x = l[i] := ⟨_, rfl⟩
   rw [← hx] at hcell
   have HX := Aside0.mk hx
   clear hx
   by_cases h0 : x < 0
   ·have h0d : decide (x < 0) = true := decide_eq_true h0
    go_wp2_with fail
    go_ret2
    have hb : Bad 8 l := ⟨x, by rw [HX.out]; exact List.getElem_mem _, .inl h0⟩
    exact ⟨⟨0, 1, rfl, (wrong_bad HN.out hb).symm, fun _ => rfl, fun h => absurd h (by decide)⟩, pw_below_drewN (Below.refl _ w) _⟩
   ·have h0d : decide (x < 0) = false := decide_eq_false h0
    have H8 := Aside0.mk (shr8 x)
    by_cases h1 : x / 256 = 0
    ·have h1d : (x / 256 != 0) = false := by rw [h1]; rfl
     have H1 := Aside0.mk h1
     have H0 := Aside0.mk h0
     clear h1 h0
     go_wp2_with fail
     obtain ⟨g2, hg2⟩ : ∃ g2, g2 = gk - 1 := ⟨_, rfl⟩
     go_roundg g2
     case measure => have := HI.out; omega
     case rel =>
      refine ⟨i + 1, _, by go_num, ⟨by have := HI.out; omega⟩, ⟨fun j hj hji => ?_⟩, rfl⟩
      rcases Nat.lt_or_eq_of_le (Nat.le_of_lt_succ hji) with h | h
      ·exact HB.out j hj h
      ·subst h
       rw [← HX.out]
       rintro (h | h)
       ·have := H0.out; omega
       ·exact h (H8.out.trans H1.out)
    ·have h1d : (x / 256 != 0) = true := bne_iff_ne.2 h1
     have H1 := Aside0.mk h1
     clear h1
     go_wp2_with fail
     go_ret2
     have hb : Bad 8 l := ⟨x, by rw [HX.out]; exact List.getElem_mem _, .inr (by rw [H8.out]; exact H1.out)⟩
     exact ⟨⟨0, 1, rfl, (wrong_bad HN.out hb).symm, fun _ => rfl, fun h => absurd h (by decide)⟩, pw_below_drewN (Below.refl _ w) _⟩
  ·have hid : decide (i < q) = false := decide_eq_false hi
   have HNB : Aside0 (¬ Bad 8 l) := ⟨by
    rintro ⟨s, hs, h⟩
    obtain ⟨j, hj, rfl⟩ := List.getElem_of_mem hs
    exact HB.out j hj (by have := HQ.out; omega) h⟩
   have hmk3 := run_make_row' (P := Tryz.prog) 23 3 (.int .i64 0) 8 Tryz.underlying23 info3 rfl .i64 .i64 u.length (by omega) (by omega)
   go_wp2_with (first
    | (go_at_call 98; refine (HU.out _).mono ?_; rintro e w1 ⟨v, rfl, hr1, hb1⟩; have HR1 := Aside0.mk hr1; have HB1 := Aside0.mk hb1; obtain ⟨Au, cu, ba, rfl, hcu, _, hba, hla⟩ := r_cells HR1.out; have HLA := Aside0.mk (And.intro hba hla); clear hr1 hb1 hba hla))
   have HW0 := Aside0.mk (lw_start (c := cu) HLA.out)
   have HBW : Aside0 (Below w.heap.size w w1) := ⟨HB1.out⟩
   obtain ⟨N, hN⟩ : ∃ N, N = w1.heap.size := ⟨_, rfl⟩
   rw [← hN] at HW0 ⊢
   obtain ⟨n, hn⟩ : ∃ n, n = u.length := ⟨_, rfl⟩
   rw [← hn] at HW0 ⊢
   rw [← hn] at hul
   have HNU := Aside0.mk hn
   clear hmk3 hN hn HLA HR1 hcu
   go_loopg [7] n (fun gk v7 wr => ∃ k : Nat, v7 = .int .i64 (k : Int) ∧ Aside0 (k + gk = n) ∧ Aside0 (LW n Au cu ba N (fun k => u[k]!) w1 wr (fun j => if j < k then -1 else 0)))
   case atStart => exact ⟨0, rfl, ⟨by omega⟩, ⟨HW0.out.congr fun k _ => by simp⟩⟩
   case round =>
    obtain ⟨k, rfl, HK, HL⟩ := hrel
    by_cases hk : k < n
    ·have hkd : decide (k < n) = true := decide_eq_true hk
     have hki : (k : Int) < (n : Int) := by omega
     have h1 : wr.cell? ⟨N + 1, 1, none⟩ = some (.slice (some ⟨N, 0, none⟩) n n) := by obtain ⟨v2, h⟩ := HL.out.rb; exact h.cell (i := 1) (by omega)
     have h2 : ∀ m, (wr.drewN m).cell? ⟨N, k, none⟩ = some (.int .i64 0) := fun m => by have := HL.out.rp.cell hk; simpa using this
     have h3 : ∀ m, (wr.drewN m).frozen? ⟨N, k, none⟩ = false := fun m => HL.out.rp.frozen k
     have h2' := HL.out.rp.cell hk
     simp only [Nat.lt_irrefl, if_false] at h2'
     have h3' := HL.out.rp.frozen k
     go_wp2_with fail
     obtain ⟨g2, hg2⟩ : ∃ g2, g2 = gk - 1 := ⟨_, rfl⟩
     go_roundg g2
     case measure => have := HK.out; omega
     case rel =>
      refine ⟨k + 1, by go_num, ⟨by have := HK.out; omega⟩, ⟨LW.congr (by first | exact HL.out.put k (-1) | exact (HL.out.drewN _).put k (-1)) fun j hj => ?_⟩⟩
      unfold Ch.put
      by_cases e : j = k
      ·subst e; simp
      ·rw [if_neg e]
       show (if j < k then (-1 : Int) else 0) = _
       by_cases h : j < k
       ·rw [if_pos h, if_pos (by omega)]
       ·rw [if_neg h, if_neg (by omega)]
    ·have hkd : decide (k < n) = false := decide_eq_false hk
     have HL0 : Aside0 (LW n Au cu ba N (fun k => u[k]!) w1 wr (fun _ => -1)) := ⟨LW.congr HL.out fun j hj => by rw [if_pos (by have := HK.out; omega)]⟩
     clear HL HK
     go_wp2_with fail
     clear hkd hk
     go_loopg [8, 9] n (fun gk v8 v9 wr => ∃ (i nn : Nat) (pr : Nat → Int) (F : List Nat), v9 = .int .i64 (i : Int) ∧ v8 = .int .i64 (nn : Int) ∧ Aside0 (i + gk = n ∧ nn = (n - i) + F.length ∧ F.length ≤ i) ∧ Aside0 (RefO n (Ed fun k => u[k]!) pr i F) ∧ Aside0 (LW n Au cu ba N (fun k => u[k]!) w1 wr pr))
     case atStart => exact ⟨0, n, fun _ => -1, [], rfl, rfl, ⟨⟨by omega, by simp, by simp⟩⟩, ⟨refO_start⟩, HL0⟩
     case round =>
      obtain ⟨i, nn, pr, F, rfl, rfl, HI3, HO, HL⟩ := hrel
      by_cases hi3 : i < n
      ·have hid3 : decide (i < n) = true := decide_eq_true hi3
       have hii3 : (i : Int) < (n : Int) := by omega
       have hmk := run_make_row' (P := Tryz.prog) 160 4 (.bool false) 1 Tryz.underlying160 info4 rfl .i64 .i64 n (by omega) (by omega)
       obtain ⟨v2, hv2⟩ : ∃ v2, ∀ o, (wr.alloc o).cell? ⟨N + 1, 2, none⟩ = some v2 ∧ (wr.alloc o).frozen? ⟨N + 1, 2, none⟩ = false := by
        obtain ⟨v2, h⟩ := HL.out.rb
        exact ⟨_, fun o => ⟨(h.alloc o).cell (i := 2) (by omega), (h.alloc o).frozen 2⟩⟩
       have s1 := fun o => (hv2 o).1
       have s2 := fun o => (hv2 o).2
       have HC := Aside0.mk (try_calls n Au cu ba 0 (N + 1) N wr.heap.size (fun k => u[k]!) (by omega) (n + 1) _ pr (fun _ => false) i (by have := uns_le n (fun _ => false); omega) HL.out.see (refO_pre HO.out hi3))
       have HI3L := Aside0.mk hi3
       clear hv2
       go_wp2_with (first
        | (go_at_call 99; refine (HC.out).mono ?_; clear s1 s2 hmk; rintro e w2 ⟨res, pr1, sn2, rfl, hm2, ht2, hno, hyes⟩; have HL2 := Aside0.mk (HL.out.back rfl ht2 hm2); have HNO := Aside0.mk hno; have HYES := Aside0.mk hyes; clear hm2 ht2 hno hyes HC; cases res))
       ·obtain ⟨hpr, hno⟩ := HNO.out trivial
        subst hpr
        obtain ⟨g2, hg2⟩ : ∃ g2, g2 = gk - 1 := ⟨_, rfl⟩
        go_roundg g2
        case measure => have := HI3.out; omega
        case rel => exact ⟨i + 1, nn, pr1, F ++ [i], by go_num, rfl, ⟨⟨by have := HI3.out; omega, by have := HI3.out; simp only [List.length_append, List.length_cons, List.length_nil]; omega, by have := HI3.out; simp only [List.length_append, List.length_cons, List.length_nil]; omega⟩⟩, ⟨refO_no HO.out HI3L.out hno⟩, HL2⟩
       ·have hyes := HYES.out trivial
        have hnn : 1 ≤ nn := by have := HI3.out; omega
        have hnn2 : nn ≤ 256 := by have := HI3.out; omega
        obtain ⟨g2, hg2⟩ : ∃ g2, g2 = gk - 1 := ⟨_, rfl⟩
        go_roundg g2
        case measure => have := HI3.out; omega
        case rel => exact ⟨i + 1, nn - 1, pr1, F, by go_num, by first | go_num | (congr 1; unfold wrap64; omega), ⟨⟨by have := HI3.out; omega, by have := HI3.out; omega, by have := HI3.out; omega⟩⟩, ⟨refO_yes HO.out HI3L.out hyes⟩, HL2⟩
      ·have hid3 : decide (i < n) = false := decide_eq_false hi3
       go_wp2_with fail
       all_goals
        go_ret2
        have hin : i = n := by have := HI3.out; omega
        have hO := HO.out
        rw [hin, HNU.out] at hO
        have hL := least_end HUE.out hO
        have hF : nn = F.length := by have := HI3.out; omega
        rw [← hF] at hL
        exact ⟨⟨_, 0, rfl, (wrong_ok HN.out HNB.out).symm, fun h => absurd rfl h, fun _ => ⟨_, hL, by omega⟩⟩, HBW.out.trans (HL.out.below.mono (by have := HBW.out.size; have := HL.out.sz; omega))⟩
theorem rleast_calls (A : Option Addr) (c : Nat) (l : List Int) (w : World) (h : Sl w A c l) :
  Calls Tryz.prog 81 #[.slice A l.length c] w fun e w' => (∃ x y, e = .returned (.tuple #[.int .i64 x, .int .i64 y]) ∧ LeastR l x y) ∧ Below w.heap.size w w' := by
 by_cases hn : 256 < l.length
 ·exact rleast_many A c l w h hn
 ·exact rleast_few A c l w h (by omega)
theorem sl_rowIs {w : World} {b n : Nat} {tt : Nat → Int} (h : w.rowIs b 3 n (fun k => .int .i64 (tt k))) (hn : n ≤ 4096) : Sl w (some ⟨b, 0, none⟩) n ((List.range n).map tt) := by
 refine ⟨?_, by simp⟩
 rw [List.length_map, List.length_range]
 refine Kd.C_of_reads (d := (0 : Int)) (h1 := fun _ => rfl) ⟨by simp, by omega, fun hp => ⟨_, rfl, fun j hj => ?_⟩⟩
 have := h.cell hj
 rw [add_plain, this]
 simp [List.getD_eq_getElem?_getD, hj]
theorem ow_R {w : World} {base : Nat} {v : Value} {zs : List Int} (h : Ow w base v zs) : Kd.R (Kd.int .i64) 3 w base (fun _ => True) v zs := Kd.R_of_own (h1 := fun _ => rfl) h fun _ _ => trivial
theorem ow_slice {w : World} {base : Nat} {v : Value} {zs : List Int} (h : Ow w base v zs) : ∃ A c, v = .slice A zs.length c ∧ Sl w A c zs := R_sl (ow_R h)
theorem ow_cells {w : World} {base : Nat} {v : Value} {zs : List Int} (h : Ow w base v zs) : ∃ A c ba, v = .slice A zs.length c ∧ (0 < zs.length → ba < w.heap.size) ∧ ∀ k, k < zs.length → A = some ⟨ba, 0, none⟩ ∧ w.cell? ⟨ba, 0 + k, none⟩ = some (.int .i64 zs[k]!) := by
 obtain ⟨A, c, ba, e, _, _, h1, h2⟩ := r_cells (ow_R h)
 exact ⟨A, c, ba, e, h1, h2⟩
structure Rw (w : World) (base : Nat) (v : Value) (rvs : List Value) (rows : List (List Int)) : Prop where
 own : w.ownsRow base 23 1 v rvs.length rvs
 len : rvs.length = rows.length
 els : ∀ j (h1 : j < rvs.length) (h2 : j < rows.length), Ow w base rvs[j] rows[j]
 apart : rvs.Pairwise NeRow
section
variable {w w1 : World} {base : Nat} {v v1 u : Value} {rvs : List Value} {rows : List (List Int)} {r : List Int}
theorem Rw.mem (h : Rw w base v rvs rows) : ∀ x ∈ rvs, ∃ r, Ow w base x r := fun x hx => by
 obtain ⟨j, hj, rfl⟩ := List.getElem_of_mem hx
 exact ⟨_, h.els j hj (by rw [← h.len]; exact hj)⟩
theorem Rw.below (h : Rw w base v rvs rows) (hb : Below w.heap.size w w1) : Rw w1 base v rvs rows :=
 ⟨pw_own_below h.own hb, h.len, fun j h1 h2 => pw_own_below (h.els j h1 h2) hb, h.apart⟩
theorem Rw.grown (h : Rw w base v rvs rows) {row : Option Nat} (hg : w.grownBy w1 row) (hne : v.ownBlock = none ∨ v.ownBlock ≠ row) (hes : ∀ x ∈ rvs, x.ownBlock = none ∨ x.ownBlock ≠ row) : Rw w1 base v rvs rows :=
 ⟨own_other h.own hg hne, h.len, fun j h1 h2 => own_other (h.els j h1 h2) hg (hes _ (List.getElem_mem _)), h.apart⟩
theorem Rw.nil (w : World) (base : Nat) : Rw w base (.slice none 0 0) [] [] := ⟨own_nil _ _ _ _, rfl, fun j h1 _ => absurd h1 (by simp), .nil⟩
theorem Rw.snoc (h : Rw w base v rvs rows) (hu : Ow w base u r) (hne : ∀ x ∈ rvs, NeRow u x) (ho : w1.ownsRow base 23 1 v1 (rvs ++ [u]).length (rvs ++ [u])) (hg : w.grownBy w1 v.ownBlock) : Rw w1 base v1 (rvs ++ [u]) (rows ++ [r]) := by
 have ht : ∀ {x : Value} {q : List Int}, Ow w base x q → Ow w1 base x q := fun hx => own_other hx hg (own_type_ne hx h.own (by decide))
 refine ⟨ho, by simp [h.len], fun j h1 h2 => ?_, ?_⟩
 ·by_cases hj : j < rvs.length
  ·rw [List.getElem_append_left hj, List.getElem_append_left (by rw [← h.len]; exact hj)]
   exact ht (h.els j hj _)
  ·have e : j = rvs.length := by simp at h1; omega
   subst e
   rw [List.getElem_append_right (by omega), List.getElem_append_right (by rw [h.len]; exact Nat.le_refl _)]
   simpa using ht hu
 ·rw [List.pairwise_append]
  exact ⟨h.apart, by simp, fun a ha b hb => by rw [List.mem_singleton] at hb; subst hb; exact ne_symm (hne a ha)⟩
structure Rg (w : World) (base : Nat) (v : Value) (rvs : List Value) (rows : List (List Int)) (u : Value) (r : List Int) : Prop where
 rw_ : Rw w base v rvs rows
 ow : Ow w base u r
 ne : ∀ x ∈ rvs, NeRow u x
theorem Rg.below (h : Rg w base v rvs rows u r) (hb : Below w.heap.size w w1) : Rg w1 base v rvs rows u r := ⟨h.rw_.below hb, pw_own_below h.ow hb, h.ne⟩
theorem Rg.start (h : Rw w base v rvs rows) : Rg w base v rvs rows (.slice none 0 0) [] := ⟨h, own_nil _ _ _ _, fun x _ => ne_nil x⟩
theorem Rg.more (h : Rg w base v rvs rows u r) {u1 : Value} {x : Int} (ho : w1.ownsRow base 3 1 u1 (r.map (Value.int .i64) ++ [Value.int .i64 x]).length (r.map (Value.int .i64) ++ [Value.int .i64 x])) (hg : w.grownBy w1 u.ownBlock) (hat : u1.ownBlock = u.ownBlock ∨ ∃ b, u1.ownBlock = some b ∧ w.heap.size ≤ b) : Rg w1 base v rvs rows u1 (r ++ [x]) := by
 refine ⟨h.rw_.grown hg (own_type_ne h.rw_.own h.ow (by decide)) (fun x hx => ne_other (h.ne x hx)), ?_, fun x hx => ?_⟩
 ·unfold Ow; simpa using ho
 ·obtain ⟨q, hq⟩ := h.rw_.mem x hx
  exact ne_append (h.ne x hx) hat hq
theorem Rg.snoc (h : Rg w base v rvs rows u r) (ho : w1.ownsRow base 23 1 v1 (rvs ++ [u]).length (rvs ++ [u])) (hg : w.grownBy w1 v.ownBlock) : Rw w1 base v1 (rvs ++ [u]) (rows ++ [r]) := h.rw_.snoc h.ow h.ne ho hg
end
theorem infoRow : (Tryz.prog.info? 23).map (fun i => (i.zero, i.size, i.bytes)) = some (some (.slice none 0 0), 1, 24) := by kernel_rfl
def chRowsTo (u : List Int) (n : Nat) (tt : Nat → Int) (i : Nat) : List (List Int) := ((List.range i).filter fun i : Nat => !decide ((i : Int) ∈ (List.range n).map tt)).map fun i : Nat => chRow u n tt i
theorem chRowsTo_all (u : List Int) (n : Nat) (tt : Nat → Int) : chRowsTo u n tt n = chRows u n tt := rfl
theorem chRowsTo_in {u : List Int} {n : Nat} {tt : Nat → Int} {i : Nat} (h : (i : Int) ∈ (List.range n).map tt) : chRowsTo u n tt (i + 1) = chRowsTo u n tt i := by
 unfold chRowsTo
 rw [List.range_succ, List.filter_append]
 simp only [List.filter_cons, decide_eq_true h]
 simp
theorem chRowsTo_out {u : List Int} {n : Nat} {tt : Nat → Int} {i : Nat} (h : (i : Int) ∉ (List.range n).map tt) : chRowsTo u n tt (i + 1) = chRowsTo u n tt i ++ [chRow u n tt i] := by
 unfold chRowsTo
 rw [List.range_succ, List.filter_append]
 simp only [List.filter_cons, decide_eq_false h]
 simp
theorem chRowsTo_len (u : List Int) (n : Nat) (tt : Nat → Int) (i : Nat) : (chRowsTo u n tt i).length ≤ i := by
 unfold chRowsTo
 rw [List.length_map]
 exact Nat.le_trans (List.length_filter_le _ _) (by simp)
theorem chRow_step {u : List Int} {n : Nat} {tt fr : Nat → Int} (hm : Mt n (Ed fun k => u[k]!) (-1) tt fr) (hup : ∀ s k, s < n → k < n → Ed (fun k => u[k]!) s k → s < k) (k : Nat) (hk : k < n) : chRow u n tt k = u[k]! :: chRow u n tt (tt k) := by
 unfold chRow
 rw [rowFrom_step hm hup k hk]; rfl
theorem chRow_neg {u : List Int} {n : Nat} {tt : Nat → Int} {k : Int} (h : k < 0) : chRow u n tt k = [] := by
 unfold chRow
 rw [rowFrom_neg _ _ _ h]; rfl
end Go.Proofs.YtcmllllbmgcnlaaGreat.Ch
end
section
namespace Go.Proofs.YtcmllllbmgcnlaaGreat.Ch
open Go.RowKit Go.Deep Go.Proofs.YtcmllllbmgcnlaaGreat.G Go.Proofs.YtcmllllbmgcnlaaGreat.Tup Go.Proofs.YtcmllllbmgcnlaaGreatW.PrintWords Go.Proofs.YtcmllllbmgcnlaaGreatW.PrintLast Go.Proofs.YtcmllllbmgcnlaaGreatW.PrintMore
set_option linter.unusedVariables false
set_option linter.unusedSimpArgs false
theorem Rw.lower {w : World} {base base' : Nat} {v : Value} {rvs : List Value} {rows : List (List Int)} (h : Rw w base v rvs rows) (hb : base' ≤ base) : Rw w base' v rvs rows :=
 ⟨own_weaken h.own hb, h.len, fun j h1 h2 => own_weaken (h.els j h1 h2) hb, h.apart⟩
theorem Rw.one_nil (w : World) (base : Nat) (hb : base ≤ w.heap.size) : Rw (w.alloc (.cells #[.slice none 0 0] 23)) base (.slice (some ⟨w.heap.size, 0, none⟩) 1 1) [.slice none 0 0] [[]] :=
 ⟨⟨rfl, .inr ⟨w.heap.size, 1, #[.slice none 0 0], rfl, hb, heap_alloc_new w _, Nat.le_refl _, by decide, rfl, rfl⟩⟩, rfl, fun j h1 h2 => by
  have e : j = 0 := by simp at h1; omega
  subst e
  exact own_nil _ _ _ _, by simp⟩
def ChainsR (l : List Int) (w : World) (e : Ending) (w' : World) : Prop :=
 ∃ v rvs rows, e = .returned v ∧ ChainsOk l rows ∧ Rw w' w.heap.size v rvs rows ∧ Below w.heap.size w w' ∧ rows.length ≤ 257
set_option maxHeartbeats 8000000 in
set_option maxRecDepth 100000 in
theorem chains_calls (A : Option Addr) (c : Nat) (l : List Int) (w : World) (h : Sl w A c l) (hn : l.length ≤ 256) (h8 : ∀ x ∈ l, 0 ≤ x ∧ x < 256) :
  Calls Tryz.prog 61 #[.slice A l.length c] w (ChainsR l w) := by
 have HU := Aside0.mk (cunlike_calls A c l w h hn)
 have H8 := Aside0.mk h8
 obtain ⟨u, hu⟩ : ∃ u, u = unS l := ⟨_, rfl⟩
 rw [← hu] at HU
 have HUE := Aside0.mk hu
 have hul : u.length ≤ 256 := by have := (unS_spec l).2.2; rw [← hu] at this; omega
 obtain ⟨n, hnu⟩ : ∃ n, n = u.length := ⟨_, rfl⟩
 rw [← hnu] at hul
 have HNU := Aside0.mk hnu
 have HUP : Aside0 (∀ s k, s < n → k < n → Ed (fun k => u[k]!) s k → s < k) := ⟨fun s k hs hk he => by
  have hs' := unS_sorted l
  rw [← hu] at hs'
  refine edge_up hs' (fun x hx => ?_) (by omega) (by omega) he
  rw [hu] at hx
  exact h8 x (((unS_spec l).2.1 x).1 hx).1⟩
 clear h hn h8 hu hnu
 go_enter Tryz.func61, Tryz.ntmps61
 go_wp2_with (first
  | (go_at_call 84; refine (HU.out).mono ?_; rintro e w1 ⟨v1, rfl, ho1, hb1⟩; obtain ⟨Au, cu, ba, rfl, hla⟩ := ow_cells ho1; rw [← HNU.out] at hla; have HB1 := Aside0.mk hb1; have HLA := Aside0.mk hla; rw [← HNU.out]; clear ho1 hb1 hla)
  | (go_at_call 85; refine (next_calls n Au cu ba (fun k => u[k]!) w1 (by omega) HLA.out.2 HLA.out.1).mono ?_; rintro e w2 ⟨bt, bf, tt, fr, rfl, hnb, hno⟩; have HNB := Aside0.mk hnb; have HNO := Aside0.mk hno; clear hnb hno))
 obtain ⟨N, hN⟩ : ∃ N, N = w2.heap.size := ⟨_, rfl⟩
 have HBT : Aside0 (bt < N ∧ (0 < n → ba < N)) := ⟨by rw [hN]; exact HNB.out.rt.lt, fun h => by have := HNB.out.lb h; have := HNB.out.below.size; omega⟩
 have HN := Aside0.mk hN
 clear hN
 go_loopg [5, 15] n (fun gk v5 v15 wr => ∃ (i : Nat) (rvs : List Value) (A5 : Option Addr) (c5 : Nat), v15 = .int .i64 (i : Int) ∧ v5 = .slice A5 rvs.length c5 ∧ Aside0 (i + gk = n) ∧ Aside0 (Below N w2 wr) ∧ Aside0 (Rw wr N (.slice A5 rvs.length c5) rvs (chRowsTo u n tt i)))
 case atStart => exact ⟨0, [], none, 0, rfl, rfl, ⟨by omega⟩, ⟨Below.refl _ _⟩, ⟨Rw.nil _ _⟩⟩
 case round =>
  obtain ⟨i, rvs, A5, c5, rfl, rfl, HI, HB, HR⟩ := hrel
  by_cases hi : i < n
  ·have hid : decide (i < n) = true := decide_eq_true hi
   have hii : (i : Int) < (n : Int) := by omega
   have HIL := Aside0.mk hi
   have hrt : wr.rowIs bt 3 n (fun k => .int .i64 (tt k)) := HNB.out.rt.of_block (HB.out.block _ HBT.out.1)
   have HRT := Aside0.mk hrt
   have hcon := contains_calls (some ⟨bt, 0, none⟩) n ((List.range n).map tt) (i : Int) wr (sl_rowIs hrt (by omega)) (by simp; omega)
   rw [List.length_map, List.length_range] at hcon
   clear hrt
   by_cases hmem : (i : Int) ∈ (List.range n).map tt
   ·rw [decide_eq_true hmem] at hcon
    have HME := Aside0.mk hmem
    clear hmem
    go_wp2_with (first
     | (go_at_call 62; refine hcon.mono ?_; clear hcon; rintro e w3 ⟨rfl, ⟨nd, rfl⟩⟩))
    obtain ⟨g2, hg2⟩ : ∃ g2, g2 = gk - 1 := ⟨_, rfl⟩
    go_roundg g2
    case measure => have := HI.out; have := HIL.out; omega
    case rel => exact ⟨i + 1, rvs, A5, c5, by go_num, rfl, ⟨by have := HI.out; have := HIL.out; omega⟩, ⟨pw_below_drewN HB.out _⟩, ⟨by rw [chRowsTo_in HME.out]; exact HR.out.below (pw_below_drewN (Below.refl _ _) _)⟩⟩
   ·rw [decide_eq_false hmem] at hcon
    have HME := Aside0.mk hmem
    clear hmem
    go_wp2_with (first
     | (go_at_call 62; refine hcon.mono ?_; clear hcon; rintro e w3 ⟨rfl, ⟨nd, rfl⟩⟩))
    have HB3 : Aside0 (Below N w2 (wr.drewN nd)) := ⟨pw_below_drewN HB.out _⟩
    have HR3 : Aside0 (Rg (wr.drewN nd) N (.slice A5 rvs.length c5) rvs (chRowsTo u n tt i) (.slice none 0 0) []) := ⟨Rg.start (HR.out.below (pw_below_drewN (Below.refl _ _) _))⟩
    have HLR : Aside0 (rvs.length ≤ 256) := ⟨by have h1 := HR.out.len; have h2 := chRowsTo_len u n tt i; have := HIL.out; omega⟩
    clear HB HR HRT hii hid hi
    generalize wr.drewN nd = W3 at HB3 HR3 ⊢
    go_loopg [7, 8] n (fun gk v7 v8 wr => ∃ (k : Int) (r : List Int) (A7 : Option Addr) (c7 : Nat), v8 = .int .i64 k ∧ v7 = .slice A7 r.length c7 ∧ Aside0 (Pl n k) ∧ Aside0 (0 ≤ k → n - k.toNat ≤ gk) ∧ Aside0 (r ++ chRow u n tt k = chRow u n tt i) ∧ Aside0 (r.length ≤ n) ∧ Aside0 (Below N w2 wr) ∧ Aside0 (Rg wr N (.slice A5 rvs.length c5) rvs (chRowsTo u n tt i) (.slice A7 r.length c7) r))
    case atStart => exact ⟨(i : Int), [], none, 0, rfl, rfl, ⟨.inr ⟨i, HIL.out, rfl⟩⟩, ⟨fun _ => by omega⟩, ⟨rfl⟩, ⟨by simp⟩, HB3, HR3⟩
    case round =>
     obtain ⟨k, r, A7, c7, rfl, rfl, HP, HG, HE, HLN, HB4, HR4⟩ := hrel
     by_cases hk : 0 ≤ k
     ·have hkd : decide (0 ≤ k) = true := decide_eq_true hk
      obtain ⟨q, hq, rfl⟩ := HP.out.pos hk
      have hqi : (q : Int) < (n : Int) := by omega
      obtain ⟨rfl, _⟩ := HLA.out.2 q hq
      obtain ⟨x, hx⟩ : ∃ x, x = u[q]! := ⟨_, rfl⟩
      have hlk : wr.cell? ⟨ba, q, none⟩ = some (.int .i64 x) := by
       have h1 := (HNB.out.cell q hq).2
       rw [Nat.zero_add] at h1
       rw [HB4.out.cell (p := ⟨ba, q, none⟩) (HBT.out.2 (by omega)), hx]; exact h1
      have HX := Aside0.mk hx
      have HQ := Aside0.mk hq
      have hst := chRow_step HNO.out.1 HUP.out q hq
      rw [← hx] at hst
      have HST := Aside0.mk hst
      have HRL : Aside0 (r.length + 1 ≤ n ∧ N ≤ wr.heap.size) := ⟨by
       have h1 := congrArg List.length HE.out
       rw [hst] at h1
       have h2 := chRow_len u n tt (i : Int)
       simp at h1; omega, by rw [HN.out]; exact HB4.out.size⟩
      clear hx hq hst hk
      go_wp2_with (first
       | ((with_reducible refine gate_builtin (b := .append) (xs := #[.tmp 28, .tmp 33]) rfl ?_); at_builtin; refine print_append (w0 := w2) N rfl (.tmp 28) (.tmp 33) 23 3 (.int .i64 0) 8 rfl Tryz.underlying23 info3 rfl (by decide) (.slice A7 r.length c7) (r.map (Value.int .i64)) (.int .i64 x) rfl rfl rfl ?aO HB4.out HRL.out.2 ?aL ?_; (case aO => rw [List.length_map]; exact HR4.out.ow); (case aL => rw [List.length_map]; have := HRL.out; omega); intro v6 w6 q6 b6 g6 t6; have HR6 := Aside0.mk (HR4.out.more q6 g6 t6); obtain ⟨A8, c8, hv6, _⟩ := ow_slice HR6.out.ow; subst hv6; have HB6 := Aside0.mk b6; have htk := (HNB.out.rt.of_block (b6.block _ HBT.out.1)).cell HQ.out; clear q6 b6 g6 t6 hlk))
      obtain ⟨g2, hg2⟩ : ∃ g2, g2 = gk - 1 := ⟨_, rfl⟩
      go_roundg g2
      case measure => have := HG.out (by omega); have := HQ.out; omega
      case rel =>
       refine ⟨tt q, r ++ [x], A8, c8, rfl, by simp, ⟨HNO.out.1.rt q HQ.out⟩, ⟨fun h0 => ?_⟩, ⟨by rw [← HE.out, HST.out]; simp⟩, ⟨by simp; exact HRL.out.1⟩, HB6, HR6⟩
       obtain ⟨p, hp, e⟩ := (HNO.out.1.rt q HQ.out).pos h0
       have h1 := HUP.out q p HQ.out hp (HNO.out.1.tf q HQ.out p e).2.1
       have := HG.out (by omega)
       rw [e, Int.toNat_natCast]
       omega
     ·have hkd : decide (0 ≤ k) = false := decide_eq_false hk
      have hr : r = chRow u n tt (i : Int) := by
       have := HE.out
       rwa [chRow_neg (by omega), List.append_nil] at this
      have HRR := Aside0.mk hr
      have HRL : Aside0 (N ≤ wr.heap.size) := ⟨by rw [HN.out]; exact HB4.out.size⟩
      clear hr hk
      go_wp2_with (first
       | ((with_reducible refine gate_builtin (b := .append) (xs := #[.tmp 35, .tmp 37]) rfl ?_); at_builtin; refine print_append (w0 := w2) N rfl (.tmp 35) (.tmp 37) 44 23 (.slice none 0 0) 24 rfl Tryz.underlying44 infoRow rfl (by decide) (.slice A5 rvs.length c5) rvs (.slice A7 r.length c7) rfl rfl rfl HR4.out.rw_.own HB4.out HRL.out ?aL ?_; (case aL => have := HLR.out; omega); intro v6 w6 q6 b6 g6 t6; have HR6 := Aside0.mk (HR4.out.snoc q6 g6); obtain ⟨A8, c8, hv6⟩ := own_slice HR6.out.own; subst hv6; have HB6 := Aside0.mk b6; clear q6 b6 g6 t6))
      obtain ⟨g2, hg2⟩ : ∃ g2, g2 = n - (i + 1) := ⟨_, rfl⟩
      go_roundg g2
      case measure => have := HI.out; have := HIL.out; omega
      case rel => exact ⟨i + 1, rvs ++ [.slice A7 r.length c7], A8, c8, by rw [wrap_nat _ (by have := HIL.out; omega)], by simp, ⟨by have := HI.out; have := HIL.out; omega⟩, HB6, ⟨by rw [chRowsTo_out HME.out, ← HRR.out]; exact HR6.out⟩⟩
  ·have hid : decide (i < n) = false := decide_eq_false hi
   have hin : i = n := by have := HI.out; omega
   have HBW : Aside0 (Below w.heap.size w wr) := ⟨by
    have h1 := HB1.out.trans (HNB.out.below.mono HB1.out.size)
    exact h1.trans (HB.out.mono (by rw [HN.out]; exact h1.size))⟩
   have HNW : Aside0 (w.heap.size ≤ N) := ⟨by rw [HN.out]; have h1 := HB1.out.size; have h2 := HNB.out.below.size; omega⟩
   have hok := chains_ok H8.out HUE.out HNU.out HNO.out
   rw [hin, chRowsTo_all] at HR
   rw [← HR.out.len] at hok
   have hrl : (chRows u n tt).length ≤ n := by rw [← chRowsTo_all]; exact chRowsTo_len u n tt n
   have HRL := Aside0.mk hrl
   have HOK := Aside0.mk hok
   clear hok hin hrl
   by_cases h0 : rvs.length = 0
   ·have h0d : ((rvs.length : Int) == 0) = true := beq_iff_eq.2 (by omega)
    have H0 := Aside0.mk h0
    clear h0
    go_wp2_with fail
    go_ret
    refine ⟨_, _, _, rfl, ?_, Rw.one_nil wr w.heap.size HBW.out.size, HBW.out.alloc HBW.out.size _, by simp⟩
    have := HOK.out
    rwa [if_pos H0.out] at this
   ·have h0d : ((rvs.length : Int) == 0) = false := beq_eq_false_iff_ne.2 (by omega)
    have H0 := Aside0.mk h0
    clear h0
    go_wp2_with fail
    go_ret
    refine ⟨_, _, _, rfl, ?_, HR.out.lower HNW.out, HBW.out, by have := HRL.out; omega⟩
    have := HOK.out
    rwa [if_neg H0.out] at this
end Go.Proofs.YtcmllllbmgcnlaaGreat.Ch
end
section
namespace Go.Proofs.YtcmllllbmgcnlaaGreat.Ch
open Go.RowKit Go.Lib Go.Proofs.YtcmllllbmgcnlaaGreat.G Go.Proofs.YtcmllllbmgcnlaaGreat.Tup Go.Proofs.YtcmllllbmgcnlaaGreatW.PrintWords
set_option linter.unusedVariables false
set_option linter.unusedSimpArgs false
theorem least_pos {l : List Int} {n : Nat} (h : LeastIs l n) : 1 ≤ n := by
 obtain ⟨_, _, _, _, _, h⟩ := h; omega
end Go.Proofs.YtcmllllbmgcnlaaGreat.Ch
end
