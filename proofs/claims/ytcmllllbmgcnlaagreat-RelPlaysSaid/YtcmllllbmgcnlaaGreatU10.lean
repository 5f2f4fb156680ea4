/- Own texts, joined and cut to what the claim stands on: TupB. -/
import Derived.Test.YtcmllllbmgcnlaaGreatU8
section
namespace Go.Proofs.YtcmllllbmgcnlaaGreat.Tup
open Go.RowKit Go.Proofs.YtcmllllbmgcnlaaGreat.G Go.Proofs.YtcmllllbmgcnlaaGreatW.PrintWords Go.Proofs.YtcmllllbmgcnlaaGreatW.PrintLast Go.Proofs.YtcmllllbmgcnlaaGreatW.PrintMore
set_option linter.unusedVariables false
set_option linter.unusedSimpArgs false
theorem len_le {l m : List Int} (hn : l.Nodup) (hs : ∀ x ∈ l, x ∈ m) : l.length ≤ m.length := by
 induction l generalizing m with
 | nil => simp
 | cons a l ih =>
  rw [List.nodup_cons] at hn
  have ha : a ∈ m := hs a (by simp)
  have h1 := ih (m := m.erase a) hn.2 (fun x hx => by
   have hxa : x ≠ a := fun e => hn.1 (e ▸ hx)
   exact (List.mem_erase_of_ne hxa).2 (hs x (by simp [hx])))
  have h2 := List.length_erase_of_mem ha
  have h3 : 0 < m.length := List.length_pos_of_mem ha
  simp only [List.length_cons]
  omega
def upto (n : Nat) : List Int := (List.range n).map (fun i : Nat => (i : Int))
theorem upto_len (n : Nat) : (upto n).length = n := by simp [upto]
theorem mem_upto {n : Nat} {x : Int} : x ∈ upto n ↔ 0 ≤ x ∧ x < n := by
 unfold upto
 simp only [List.mem_map, List.mem_range]
 constructor
 ·rintro ⟨i, hi, rfl⟩; omega
 ·intro h; exact ⟨x.toNat, by omega, by omega⟩
theorem upto_nodup (n : Nat) : (upto n).Nodup := by
 unfold upto
 refine List.Pairwise.map _ (fun (a b : Nat) h => ?_) List.nodup_range
 intro e; exact h (by omega)
theorem Rt.all {o : List Int} (h : Rt o) (x : Int) (h0 : 0 ≤ x) (hx : x < o.length) : x ∈ o := by
 apply Classical.byContradiction
 intro hn
 have h1 := len_le (l := o) (m := (upto o.length).erase x) h.2.2 (fun y hy => by
  have : y ≠ x := fun e => hn (e ▸ hy)
  exact (List.mem_erase_of_ne this).2 (mem_upto.2 (h.2.1 y hy)))
 have hm : x ∈ upto o.length := mem_upto.2 ⟨h0, hx⟩
 have h2 := List.length_erase_of_mem hm
 rw [upto_len] at h2
 omega
theorem Rt.of_all {o : List Int} (h8 : o.length ≤ 8) (h : ∀ i : Nat, i < o.length → (i : Int) ∈ o) : Rt o := by
 have hs : ∀ x ∈ upto o.length, x ∈ o := fun x hx => by
  have := mem_upto.1 hx
  have e := h x.toNat (by omega)
  rwa [show ((x.toNat : Nat) : Int) = x by omega] at e
 refine ⟨h8, fun c hc => ?_, ?_⟩
 ·apply Classical.byContradiction
  intro hn
  have h1 := len_le (l := upto o.length) (m := o.erase c) (upto_nodup _) (fun x hx => by
   have : x ≠ c := fun e => hn (e ▸ mem_upto.1 hx)
   exact (List.mem_erase_of_ne this).2 (hs x hx))
  have h2 := List.length_erase_of_mem hc
  have h3 : 0 < o.length := List.length_pos_of_mem hc
  rw [upto_len] at h1
  omega
 ·rw [List.nodup_iff_count]
  intro c
  apply Classical.byContradiction
  intro hn
  have hc : c ∈ o := List.count_pos_iff.1 (by omega)
  have h1 := len_le (l := upto o.length) (m := o.erase c) (upto_nodup _) (fun x hx => by
   by_cases e : x = c
   ·subst e
    apply List.count_pos_iff.1
    rw [List.count_erase_self]; omega
   ·exact (List.mem_erase_of_ne e).2 (hs x hx))
  have h2 := List.length_erase_of_mem hc
  have h3 : 0 < o.length := List.length_pos_of_mem hc
  rw [upto_len] at h1
  omega
theorem Rt.iff_all {o : List Int} : Rt o ↔ o.length ≤ 8 ∧ ∀ i : Nat, i < o.length → (i : Int) ∈ o :=
 ⟨fun h => ⟨h.1, fun i hi => h.all i (by omega) (by omega)⟩, fun h => Rt.of_all h.1 h.2⟩
def headL : Nat → List Int → List Int → List Int → Bool
 | 0, _, _, _ => true
 | _ + 1, [], _, _ => true
 | k + 1, c :: o, a, b => decide (rd a c = rd b c) && headL k o a b
def headS (o : List Int) (k : Int) (a b : List Int) : Bool := decide (Fit o a ∧ Fit o b) && headL k.toNat o a b
theorem headL_more (o : List Int) (a b : List Int) (k : Nat) (h : o.length ≤ k) : headL k o a b = headL o.length o a b := by
 induction o generalizing k with
 | nil => cases k <;> rfl
 | cons c o ih =>
  simp only [List.length_cons] at h
  obtain ⟨k, rfl⟩ : ∃ q, k = q + 1 := ⟨k - 1, by omega⟩
  simp only [headL, List.length_cons]
  rw [ih k (by omega)]
theorem head_loop (o a b : List Int) (m : Nat) (hm : m ≤ o.length) (ho : o.length ≤ 8) (hr : ∀ c ∈ o, 0 ≤ c ∧ c < (o.length : Int)) (ha : a.length = o.length) (hb : b.length = o.length) : ∀ (rest pre : List Int) (k : Nat), o = pre ++ rest → pre.length ≤ m → rest.length < k →
  tuple_Head.l0 k o a b (m : Int) (pre.length : Int) = some (headL (m - pre.length) rest a b) := by
 intro rest
 induction rest with
 | nil =>
  intro pre k e hp hk
  obtain ⟨k, rfl⟩ : ∃ q, k = q + 1 := ⟨k - 1, by omega⟩
  have e' : pre = o := by simpa using e.symm
  subst e'
  simp only [tuple_Head.l0]
  rw [if_neg (by omega)]
  cases m - pre.length <;> rfl
 | cons c rest ih =>
  intro pre k e hp hk
  simp only [List.length_cons] at hk
  obtain ⟨k, rfl⟩ : ∃ q, k = q + 1 := ⟨k - 1, by omega⟩
  have hl : o.length = pre.length + (rest.length + 1) := by rw [e]; simp
  have hat := rd_at e
  have hmem := hr c (by rw [e]; simp)
  simp only [tuple_Head.l0]
  by_cases hlt : (pre.length : Int) < (m : Int)
  ·rw [if_pos hlt, if_pos (by omega), if_pos (by omega), hat, if_pos (by omega), if_pos (by omega), if_pos (by omega)]
   obtain ⟨d, hd⟩ : ∃ d, m - pre.length = d + 1 := ⟨m - pre.length - 1, by omega⟩
   rw [hd]
   simp only [headL]
   by_cases h1 : rd a c = rd b c
   ·rw [if_pos h1, wrap_nat _ (by omega)]
    have key := ih (pre ++ [c]) k (by rw [e]; simp) (by simp; omega) (by omega)
    have hd' : m - (pre ++ [c]).length = d := by simp; omega
    rw [hd'] at key
    simpa [h1] using key
   ·rw [if_neg h1]; simp [h1]
  ·rw [if_neg hlt]
   have : m - pre.length = 0 := by omega
   rw [this]; rfl
theorem head_is (k : Nat) (o : List Int) (n : Int) (a b : List Int) (hk : o.length + 3 < k) : tuple_Head.f k o n a b = some (headS o n a b) := by
 unfold tuple_Head.f headS
 rw [fit2 k o a b hk]
 simp only [Option.bind_some]
 by_cases h : Fit o a ∧ Fit o b
 ·rw [if_pos (decide_eq_true ⟨h.1.1, h.2.1, h.1.2⟩), decide_eq_true h]
  obtain ⟨m, hm⟩ : ∃ m : Nat, mx (mn n (o.length : Int)) 0 = (m : Int) := ⟨(mx (mn n (o.length : Int)) 0).toNat, by unfold mx; split <;> omega⟩
  have hm1 : m ≤ o.length := by unfold mx mn at hm; split at hm <;> split at hm <;> omega
  have hm2 : headL n.toNat o a b = headL m o a b := by
   by_cases hn : n.toNat ≤ o.length
   ·have : n.toNat = m := by unfold mx mn at hm; split at hm <;> split at hm <;> omega
    rw [this]
   ·have : m = o.length := by unfold mx mn at hm; split at hm <;> split at hm <;> omega
    rw [headL_more o a b n.toNat (by omega), this]
  rw [hm, hm2]
  have := head_loop o a b m hm1 h.1.2.1 h.1.2.2.1 h.1.1 h.2.1 o [] k (by simp) (by simp) (by omega)
  simpa using this
 ·rw [decide_eq_false h, if_neg]
  ·rfl
  ·simp only [decide_eq_true_eq]
   intro g; exact h ⟨⟨g.1, g.2.2⟩, g.2.1, g.2.2⟩
theorem cmpL_flip (o a b : List Int) : cmpL o b a = - cmpL o a b := by
 induction o with
 | nil => rfl
 | cons c o ih =>
  simp only [cmpL]
  by_cases h1 : rd a c < rd b c
  ·rw [if_neg (by omega), if_pos (by omega), if_pos h1]; rfl
  ·by_cases h2 : rd a c > rd b c
   ·rw [if_pos (by omega), if_neg h1, if_pos h2]
   ·rw [if_neg (by omega), if_neg (by omega), if_neg h1, if_neg h2, ih]
theorem cmpL_zero (o a b : List Int) : cmpL o a b = 0 ↔ ∀ c ∈ o, rd a c = rd b c := by
 induction o with
 | nil => simp [cmpL]
 | cons c o ih =>
  simp only [cmpL, List.mem_cons, forall_eq_or_imp]
  by_cases h1 : rd a c < rd b c
  ·rw [if_pos h1]; constructor
   ·intro h; omega
   ·intro h; omega
  ·by_cases h2 : rd a c > rd b c
   ·rw [if_neg h1, if_pos h2]; constructor
    ·intro h; omega
    ·intro h; omega
   ·rw [if_neg h1, if_neg h2, ih]
    constructor
    ·intro h; exact ⟨by omega, h⟩
    ·intro h; exact h.2
theorem cmpL_trans (o a b c : List Int) (h1 : cmpL o a b ≤ 0) (h2 : cmpL o b c ≤ 0) : cmpL o a c ≤ 0 := by
 induction o with
 | nil => simp [cmpL]
 | cons x o ih =>
  simp only [cmpL] at h1 h2 ⊢
  by_cases p1 : rd a x < rd b x
  ·by_cases p2 : rd b x < rd c x
   ·rw [if_pos (by omega)]; omega
   ·rw [if_neg p2] at h2
    by_cases p3 : rd b x > rd c x
    ·rw [if_pos p3] at h2; omega
    ·rw [if_pos (by omega)]; omega
  ·rw [if_neg p1] at h1
   by_cases p2 : rd a x > rd b x
   ·rw [if_pos p2] at h1; omega
   ·rw [if_neg p2] at h1
    by_cases p3 : rd b x < rd c x
    ·rw [if_pos (by omega)]; omega
    ·rw [if_neg p3] at h2
     by_cases p4 : rd b x > rd c x
     ·rw [if_pos p4] at h2; omega
     ·rw [if_neg p4] at h2
      rw [if_neg (by omega), if_neg (by omega)]
      exact ih h1 h2
theorem rd_ext {a b : List Int} (hl : a.length = b.length) (h : ∀ i : Nat, i < a.length → rd a (i : Int) = rd b (i : Int)) : a = b := by
 apply List.ext_getElem hl
 intro j h1 h2
 have := h j h1
 simpa [rd, h1, h2] using this
theorem same_of_order {o a b : List Int} (ha : Fit o a) (hb : Fit o b) (h : ∀ c ∈ o, rd a c = rd b c) : a = b := by
 refine rd_ext (by rw [ha.1, hb.1]) (fun i hi => h _ ?_)
 exact ha.2.all _ (by omega) (by rw [← ha.1]; omega)
end Go.Proofs.YtcmllllbmgcnlaaGreat.Tup
end
