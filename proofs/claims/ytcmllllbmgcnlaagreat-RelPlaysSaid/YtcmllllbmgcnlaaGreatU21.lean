/- Own texts, joined and cut to what the claim stands on: ChMatch, ChBase, ChUnlike, ChUnlike2, ChNextLaw. -/
import Derived.Shelf.SortM.Plain
import Derived.Shelf.SortM.SortNone
import Derived.Shelf.SlicesE.Compact
import Derived.Shelf.SlicesE.DeleteFunc
import Derived.Ground.SlgmProg
import Derived.Ground.SlgnProg
import Derived.Ground.SlgfProg
import Derived.Lib.OwnBridge
import Derived.Lib.AppendIntMem
import Derived.Test.YtcmllllbmgcnlaaGreatU4
import Derived.Test.YtcmllllbmgcnlaaGreatU20
import Derived.Test.YtcmllllbmgcnlaaGreatU11
import Derived.Test.YtcmllllbmgcnlaaGreatU5
import Derived.Test.YtcmllllbmgcnlaaGreatU6
import Derived.Test.YtcmllllbmgcnlaaGreatU7
section
namespace Go.Proofs.YtcmllllbmgcnlaaGreat.Ch
set_option linter.unusedVariables false
set_option linter.unusedSimpArgs false
theorem le_of_nodup {α : Type} : ∀ {a b : List α}, a.Nodup → (∀ x ∈ a, x ∈ b) → a.length ≤ b.length
 | [], _, _, _ => Nat.zero_le _
 | x :: a, b, hn, h => by
  classical
  have hx : x ∈ b := h x (List.mem_cons_self ..)
  obtain ⟨hxa, hna⟩ := List.nodup_cons.1 hn
  obtain ⟨p, q, rfl⟩ := List.append_of_mem hx
  have := le_of_nodup (a := a) (b := p ++ q) hna (fun y hy => by
   have hyb := h y (List.mem_cons_of_mem _ hy)
   rcases List.mem_append.1 hyb with h1 | h1
   ·exact List.mem_append_left _ h1
   ·rcases List.mem_cons.1 h1 with h2 | h2
    ·exact absurd (h2 ▸ hy) hxa
    ·exact List.mem_append_right _ h2)
  simp at this ⊢
  omega
theorem eq_of_nodup {α : Type} {a b : List α} (ha : a.Nodup) (hb : b.Nodup) (h : ∀ x, x ∈ a ↔ x ∈ b) : a.length = b.length :=
 Nat.le_antisymm (le_of_nodup ha fun x hx => (h x).1 hx) (le_of_nodup hb fun x hx => (h x).2 hx)
structure Pairs {α : Type} (R : α → α → Prop) (M : List (α × α)) : Prop where
 rel : ∀ p ∈ M, R p.1 p.2
 fst : (M.map (·.1)).Nodup
 snd : (M.map (·.2)).Nodup
def Most {α : Type} (R : α → α → Prop) (m : Nat) : Prop := (∃ M, Pairs R M ∧ M.length = m) ∧ ∀ M, Pairs R M → M.length ≤ m
structure Fin (n : Nat) (E : Nat → Nat → Prop) (fr : Nat → Int) (F : List Nat) (D : Nat → Prop) : Prop where
 inj : ∀ k k', k < n → k' < n → 0 ≤ fr k → fr k = fr k' → k = k'
 rng : ∀ k, k < n → 0 ≤ fr k → (fr k).toNat < n ∧ E (fr k).toNat k
 nodup : F.Nodup
 mem : ∀ s, s ∈ F ↔ s < n ∧ ∀ k, k < n → fr k ≠ (s : Int)
 dead : ∀ k, D k → k < n ∧ 0 ≤ fr k ∧ ∀ k', k' < n → E (fr k).toNat k' → D k'
 fail : ∀ s ∈ F, ∀ k, k < n → E s k → D k
section
variable {n : Nat} {E : Nat → Nat → Prop} {fr : Nat → Int} {F : List Nat} {D : Nat → Prop}
open Classical in
theorem nodup_map_on {α β : Type} {f : α → β} : ∀ {l : List α}, l.Nodup → (∀ x ∈ l, ∀ y ∈ l, f x = f y → x = y) → (l.map f).Nodup
 | [], _, _ => List.nodup_nil
 | x :: l, h, hf => by
  obtain ⟨h1, h2⟩ := List.nodup_cons.1 h
  rw [List.map_cons, List.nodup_cons]
  refine ⟨fun hm => ?_, nodup_map_on h2 fun a ha b hb => hf a (List.mem_cons_of_mem _ ha) b (List.mem_cons_of_mem _ hb)⟩
  obtain ⟨y, hy, e⟩ := List.mem_map.1 hm
  exact h1 (hf y (List.mem_cons_of_mem _ hy) x (List.mem_cons_self ..) e ▸ hy)
def Fin.dom (n : Nat) (fr : Nat → Int) : List Nat := (List.range n).filter fun k => decide (0 ≤ fr k)
theorem Fin.mem_dom {k : Nat} : k ∈ Fin.dom n fr ↔ k < n ∧ 0 ≤ fr k := by simp [Fin.dom, List.mem_filter]
theorem Fin.dom_nodup : (Fin.dom n fr).Nodup := List.Nodup.sublist List.filter_sublist List.nodup_range
theorem filter_split {α : Type} (p : α → Bool) : ∀ l : List α, (l.filter p).length + (l.filter fun x => !p x).length = l.length
 | [] => rfl
 | x :: l => by
  have := filter_split p l
  cases h : p x <;> simp [h] <;> omega
theorem Fin.dom_length (h : Fin n E fr F D) : (Fin.dom n fr).length + F.length = n := by
 have h1 : ((Fin.dom n fr).map fun k => (fr k).toNat).Nodup := nodup_map_on Fin.dom_nodup fun x hx y hy e => by
  obtain ⟨hx1, hx2⟩ := Fin.mem_dom.1 hx
  obtain ⟨hy1, hy2⟩ := Fin.mem_dom.1 hy
  exact h.inj x y hx1 hy1 hx2 (by omega)
 have h2 : (((Fin.dom n fr).map fun k => (fr k).toNat) ++ F).Nodup := by
  rw [List.nodup_append]
  refine ⟨h1, h.nodup, fun a ha b hb e => ?_⟩
  subst e
  obtain ⟨k, hk, rfl⟩ := List.mem_map.1 ha
  obtain ⟨hk1, hk2⟩ := Fin.mem_dom.1 hk
  exact ((h.mem _).1 hb).2 k hk1 (by omega)
 have h3 := eq_of_nodup h2 (List.nodup_range (n := n)) fun x => by
  rw [List.mem_append, List.mem_map, List.mem_range]
  constructor
  ·rintro (⟨k, hk, rfl⟩ | hx)
   ·exact (h.rng k (Fin.mem_dom.1 hk).1 (Fin.mem_dom.1 hk).2).1
   ·exact ((h.mem _).1 hx).1
  ·intro hx
   by_cases hf : ∃ k, k < n ∧ fr k = (x : Int)
   ·obtain ⟨k, hk, e⟩ := hf
    exact .inl ⟨k, Fin.mem_dom.2 ⟨hk, by omega⟩, by omega⟩
   ·exact .inr ((h.mem _).2 ⟨hx, fun k hk e => hf ⟨k, hk, e⟩⟩)
 simpa using h3
theorem Fin.free_length (h : Fin n E fr F D) : ((List.range n).filter fun k => decide (fr k < 0)).length = F.length := by
 have h1 := filter_split (fun k => decide (0 ≤ fr k)) (List.range n)
 have h2 := h.dom_length
 have h3 : ((List.range n).filter fun k => !decide (0 ≤ fr k)) = (List.range n).filter fun k => decide (fr k < 0) := by
  congr 1; funext k
  by_cases h : 0 ≤ fr k
  ·rw [decide_eq_true h, decide_eq_false (by omega)]; rfl
  ·rw [decide_eq_false h, decide_eq_true (by omega)]; rfl
 rw [h3] at h1
 unfold Fin.dom at h2
 simp at h1 h2 ⊢
 omega
open Classical in
theorem Fin.most (h : Fin n E fr F D) : Most (fun s k => s < n ∧ k < n ∧ E s k) (n - F.length) := by
 have hd := h.dom_length
 constructor
 ·refine ⟨(Fin.dom n fr).map fun k => ((fr k).toNat, k), ⟨?_, ?_, ?_⟩, by simp; omega⟩
  ·intro p hp
   obtain ⟨k, hk, rfl⟩ := List.mem_map.1 hp
   obtain ⟨hk1, hk2⟩ := Fin.mem_dom.1 hk
   exact ⟨(h.rng k hk1 hk2).1, hk1, (h.rng k hk1 hk2).2⟩
  ·rw [List.map_map]
   exact nodup_map_on Fin.dom_nodup fun x hx y hy e => by
    obtain ⟨hx1, hx2⟩ := Fin.mem_dom.1 hx
    obtain ⟨hy1, hy2⟩ := Fin.mem_dom.1 hy
    simp at e
    exact h.inj x y hx1 hy1 hx2 (by omega)
  ·rw [List.map_map]
   exact nodup_map_on Fin.dom_nodup fun x hx y hy e => e
 ·intro M hM
  have hDl : ∃ Dl : List Nat, Dl.Nodup ∧ ∀ k, k ∈ Dl ↔ D k := ⟨(List.range n).filter fun k => decide (D k), List.Nodup.sublist List.filter_sublist List.nodup_range, fun k => by
   simp [List.mem_filter]; exact fun hk => (h.dead k hk).1⟩
  obtain ⟨Dl, hDn, hDm⟩ := hDl
  have hS1 : (Dl.map fun k => (fr k).toNat).Nodup := nodup_map_on hDn fun x hx y hy e => by
   have hx' := h.dead x ((hDm x).1 hx)
   have hy' := h.dead y ((hDm y).1 hy)
   exact h.inj x y hx'.1 hy'.1 hx'.2.1 (by omega)
  have hS : ((Dl.map fun k => (fr k).toNat) ++ F).Nodup := by
   rw [List.nodup_append]
   refine ⟨hS1, h.nodup, fun a ha b hb e => ?_⟩
   subst e
   obtain ⟨k, hk, rfl⟩ := List.mem_map.1 ha
   have hk' := h.dead k ((hDm k).1 hk)
   exact ((h.mem _).1 hb).2 k hk'.1 (by omega)
  obtain ⟨S, hSe⟩ : ∃ S, S = (Dl.map fun k => (fr k).toNat) ++ F := ⟨_, rfl⟩
  rw [← hSe] at hS
  have hSl : S.length = Dl.length + F.length := by rw [hSe]; simp
  have hSn : ∀ s ∈ S, s < n := fun s hs => by
   rw [hSe, List.mem_append] at hs
   rcases hs with hs | hs
   ·obtain ⟨k, hk, rfl⟩ := List.mem_map.1 hs
    have hk' := h.dead k ((hDm k).1 hk)
    exact (h.rng k hk'.1 hk'.2.1).1
   ·exact ((h.mem _).1 hs).1
  have hSd : ∀ s ∈ S, ∀ k, k < n → E s k → k ∈ Dl := fun s hs k hk he => by
   rw [hDm]
   rw [hSe, List.mem_append] at hs
   rcases hs with hs | hs
   ·obtain ⟨k', hk', rfl⟩ := List.mem_map.1 hs
    exact (h.dead k' ((hDm k').1 hk')).2.2 k hk he
   ·exact h.fail s hs k hk he
  have hsp := filter_split (fun p : Nat × Nat => decide (p.1 ∈ S)) M
  have hin : (M.filter fun p => decide (p.1 ∈ S)).length ≤ Dl.length := by
   have : ((M.filter fun p => decide (p.1 ∈ S)).map (·.2)).Nodup := List.Nodup.sublist (List.Sublist.map _ List.filter_sublist) hM.snd
   have := le_of_nodup this (b := Dl) fun k hk => by
    obtain ⟨p, hp, rfl⟩ := List.mem_map.1 hk
    obtain ⟨hp1, hp2⟩ := List.mem_filter.1 hp
    obtain ⟨_, h2, h3⟩ := hM.rel p hp1
    exact hSd p.1 (of_decide_eq_true hp2) p.2 h2 h3
   simpa using this
  have hout : (M.filter fun p => !decide (p.1 ∈ S)).length + S.length ≤ n := by
   have h1 : ((M.filter fun p => !decide (p.1 ∈ S)).map (·.1)).Nodup := List.Nodup.sublist (List.Sublist.map _ List.filter_sublist) hM.fst
   have h2 : (((M.filter fun p => !decide (p.1 ∈ S)).map (·.1)) ++ S).Nodup := by
    rw [List.nodup_append]
    refine ⟨h1, hS, fun a ha b hb e => ?_⟩
    subst e
    obtain ⟨p, hp, rfl⟩ := List.mem_map.1 ha
    have := (List.mem_filter.1 hp).2
    simp at this
    exact this hb
   have := le_of_nodup h2 (b := List.range n) fun x hx => by
    rw [List.mem_range]
    rcases List.mem_append.1 hx with hx | hx
    ·obtain ⟨p, hp, rfl⟩ := List.mem_map.1 hx
     exact (hM.rel p (List.mem_filter.1 hp).1).1
    ·exact hSn x hx
   simpa using this
  omega
end
theorem most_values {α : Type} [Inhabited α] {R : α → α → Prop} {L : List α} {m : Nat} (hn : L.Nodup) (h : Most (fun s k => s < L.length ∧ k < L.length ∧ R L[s]! L[k]!) m) : Most (fun x y => x ∈ L ∧ y ∈ L ∧ R x y) m := by
 obtain ⟨⟨M, hM, rfl⟩, h2⟩ := h
 have hinj : ∀ i j, i < L.length → j < L.length → L[i]! = L[j]! → i = j := fun i j hi hj e => by
  rw [getElem!_pos L i hi, getElem!_pos L j hj] at e
  exact (List.getElem_inj hn).1 e
 constructor
 ·refine ⟨M.map fun p => (L[p.1]!, L[p.2]!), ⟨?_, ?_, ?_⟩, by simp⟩
  ·intro p hp
   obtain ⟨q, hq, rfl⟩ := List.mem_map.1 hp
   obtain ⟨h1, h2, h3⟩ := hM.rel q hq
   exact ⟨by rw [getElem!_pos L q.1 h1]; exact List.getElem_mem _, by rw [getElem!_pos L q.2 h2]; exact List.getElem_mem _, h3⟩
  ·have := nodup_map_on (f := fun i : Nat => L[i]!) hM.fst fun x hx y hy e => by
    obtain ⟨p, hp, rfl⟩ := List.mem_map.1 hx
    obtain ⟨q, hq, rfl⟩ := List.mem_map.1 hy
    exact hinj _ _ (hM.rel p hp).1 (hM.rel q hq).1 e
   rw [List.map_map] at this ⊢
   exact this
  ·have := nodup_map_on (f := fun i : Nat => L[i]!) hM.snd fun x hx y hy e => by
    obtain ⟨p, hp, rfl⟩ := List.mem_map.1 hx
    obtain ⟨q, hq, rfl⟩ := List.mem_map.1 hy
    exact hinj _ _ (hM.rel p hp).2.1 (hM.rel q hq).2.1 e
   rw [List.map_map] at this ⊢
   exact this
 ·intro N hN
  have hex : ∀ x, ∃ i, x ∈ L → i < L.length ∧ L[i]! = x := fun x => by
   by_cases hx : x ∈ L
   ·obtain ⟨i, hi, e⟩ := List.getElem_of_mem hx
    exact ⟨i, fun _ => ⟨hi, by rw [getElem!_pos L i hi]; exact e⟩⟩
   ·exact ⟨0, fun h => absurd h hx⟩
  let ix : α → Nat := fun x => Classical.choose (hex x)
  have hix : ∀ x, x ∈ L → ix x < L.length ∧ L[ix x]! = x := fun x => Classical.choose_spec (hex x)
  have hinj' : ∀ x y, x ∈ L → y ∈ L → ix x = ix y → x = y := fun x y hx hy e => by
   rw [← (hix x hx).2, ← (hix y hy).2, e]
  have := h2 (N.map fun p => (ix p.1, ix p.2)) ⟨?_, ?_, ?_⟩
  ·simpa using this
  ·intro p hp
   obtain ⟨q, hq, rfl⟩ := List.mem_map.1 hp
   obtain ⟨h1, h2, h3⟩ := hN.rel q hq
   exact ⟨(hix _ h1).1, (hix _ h2).1, by rw [(hix _ h1).2, (hix _ h2).2]; exact h3⟩
  ·have := nodup_map_on (f := ix) hN.fst fun x hx y hy e => by
    obtain ⟨p, hp, rfl⟩ := List.mem_map.1 hx
    obtain ⟨q, hq, rfl⟩ := List.mem_map.1 hy
    exact hinj' _ _ (hN.rel p hp).1 (hN.rel q hq).1 e
   rw [List.map_map] at this ⊢
   exact this
  ·have := nodup_map_on (f := ix) hN.snd fun x hx y hy e => by
    obtain ⟨p, hp, rfl⟩ := List.mem_map.1 hx
    obtain ⟨q, hq, rfl⟩ := List.mem_map.1 hy
    exact hinj' _ _ (hN.rel p hp).2.1 (hN.rel q hq).2.1 e
   rw [List.map_map] at this ⊢
   exact this
end Go.Proofs.YtcmllllbmgcnlaaGreat.Ch
end
section
namespace Go.Proofs.YtcmllllbmgcnlaaGreat.Ch
open Go.RowKit Go.Proofs.YtcmllllbmgcnlaaGreat.G Go.Proofs.YtcmllllbmgcnlaaGreat.Tup Go.Proofs.YtcmllllbmgcnlaaGreatW.PrintWords Go.Proofs.YtcmllllbmgcnlaaGreatW.PrintLast Go.Proofs.YtcmllllbmgcnlaaGreatW.PrintMore
set_option linter.unusedVariables false
set_option linter.unusedSimpArgs false
theorem R_sl {w : World} {base : Nat} {ok : Nat → Prop} {v : Value} {r : List Int} (h : Kd.R (Kd.int .i64) 3 w base ok v r) : ∃ A c, v = .slice A r.length c ∧ Sl w A c r := by
 obtain ⟨A, c, e, hl, hc⟩ := Kd.R_reads h
 exact ⟨A, c, e, hc, hl⟩
theorem sl_cells {w : World} {A : Option Addr} {c : Nat} {l : List Int} (h : Sl w A c l) (i : Nat) (hi : i < l.length) : ∃ ad, A = some ad ∧ w.cell? (ad.add i) = some (.int .i64 l[i]) := by
 obtain ⟨ad, c, e, hl, hK, hc⟩ := Kd.C_get h.C (0 : Int) (i : Int) (by omega) (by omega)
 have eg : l.getD ((i : Int)).toNat 0 = l[i] := by simp [hi]
 rw [eg] at hK
 have hce : c = [.int .i64 l[i]] := hK
 subst hce
 have := hc 0 _ rfl
 exact ⟨ad, e, by simpa [Kd.int, Kd.scalar] using this⟩
def unlR : List Int → List Int → List Int
 | acc, [] => acc
 | acc, x :: l => if x = 0 ∨ x ∈ acc then unlR acc l else unlR (acc ++ [x]) l
theorem unlR_spec : ∀ (l acc : List Int), acc.Nodup → (unlR acc l).Nodup ∧ (∀ x, x ∈ unlR acc l ↔ x ∈ acc ∨ (x ∈ l ∧ x ≠ 0)) ∧ (unlR acc l).length ≤ acc.length + l.length
 | [], acc, h => ⟨h, fun x => by simp [unlR], by simp [unlR]⟩
 | y :: l, acc, h => by
  unfold unlR
  by_cases hy : y = 0 ∨ y ∈ acc
  ·rw [if_pos hy]
   obtain ⟨h1, h2, h3⟩ := unlR_spec l acc h
   refine ⟨h1, fun x => ?_, by simp only [List.length_cons]; omega⟩
   rw [h2, List.mem_cons]
   constructor
   ·rintro (h4 | h4)
    ·exact .inl h4
    ·exact .inr ⟨.inr h4.1, h4.2⟩
   ·rintro (h4 | ⟨rfl | h4, h5⟩)
    ·exact .inl h4
    ·exact .inl (hy.resolve_left h5)
    ·exact .inr ⟨h4, h5⟩
  ·rw [if_neg hy]
   have hy1 : y ≠ 0 := fun e => hy (.inl e)
   have hy2 : y ∉ acc := fun e => hy (.inr e)
   obtain ⟨h1, h2, h3⟩ := unlR_spec l (acc ++ [y]) (by
    rw [List.nodup_append]
    exact ⟨h, by simp, fun a ha b hb e => by rw [List.mem_singleton] at hb; subst hb; subst e; exact hy2 ha⟩)
   refine ⟨h1, fun x => ?_, by simp only [List.length_cons, List.length_append, List.length_nil] at h3 ⊢; omega⟩
   rw [h2, List.mem_cons, List.mem_append, List.mem_singleton]
   constructor
   ·rintro ((h4 | rfl) | h4)
    ·exact .inl h4
    ·exact .inr ⟨.inl rfl, hy1⟩
    ·exact .inr ⟨.inr h4.1, h4.2⟩
   ·rintro (h4 | ⟨rfl | h4, h5⟩)
    ·exact .inl (.inl h4)
    ·exact .inl (.inr rfl)
    ·exact .inr ⟨h4, h5⟩
theorem unl_loop (l : List Int) (hn : l.length ≤ 4096) : ∀ (rest pre acc : List Int) (k : Nat), l = pre ++ rest → acc.length ≤ pre.length → l.length + rest.length + 1 < k →
  vestryref06_unlike.l0 k l acc (pre.length : Int) = some (unlR acc rest)
 | [], pre, acc, 0, _, _, hk => by omega
 | [], pre, acc, k + 1, hp, _, hk => by
  have e : pre.length = l.length := by rw [hp]; simp
  simp only [vestryref06_unlike.l0]
  rw [if_neg (by omega)]
  rfl
 | x :: rest, pre, acc, 0, _, _, hk => by omega
 | x :: rest, pre, acc, k + 1, hp, ha, hk => by
  have e : l.length = pre.length + rest.length + 1 := by rw [hp]; simp; omega
  have hp' : l = (pre ++ [x]) ++ rest := by rw [hp]; simp
  have ew : wrap64 ((pre.length : Int) + 1) = ((pre ++ [x]).length : Int) := by rw [wrap_nat _ (by omega)]; simp
  have erd : rd l (pre.length : Int) = x := rd_at hp
  simp only [List.length_cons] at hk
  simp only [vestryref06_unlike.l0]
  rw [if_pos (by omega), if_pos (by omega), erd, ew, has_is k acc x (by omega) (by omega)]
  simp only [Option.bind_some, decide_eq_true_eq, unlR]
  by_cases h0 : x = 0
  ·rw [if_pos h0, if_pos (.inl h0)]
   exact unl_loop l hn rest (pre ++ [x]) acc k hp' (by simp; omega) (by omega)
  ·rw [if_neg h0]
   by_cases h1 : x ∈ acc
   ·rw [if_pos h1, if_pos (.inr h1)]
    exact unl_loop l hn rest (pre ++ [x]) acc k hp' (by simp; omega) (by omega)
   ·rw [if_neg h1, if_pos (by omega), if_neg (by simp [h0, h1])]
    exact unl_loop l hn rest (pre ++ [x]) (acc ++ [x]) k hp' (by simp; omega) (by omega)
theorem runlike_calls (A : Option Addr) (c : Nat) (l : List Int) (w : World) (h : Sl w A c l) (hn : l.length ≤ 4096) :
  Calls Tryz.prog 98 #[.slice A l.length c] w fun e w' => ∃ v, e = .returned v ∧ Kd.R (Kd.int .i64) 3 w' w.heap.size (fun _ => True) v (unlR [] l) ∧ Below w.heap.size w w' :=
 vestryref06_unlike.calls (2 * l.length + 2) _ _ l _ w h.C h.le (unl_loop l hn l [] [] _ rfl (Nat.le_refl _) (by omega))
def Bad (width : Int) (l : List Int) : Prop := ∃ s ∈ l, s < 0 ∨ shr .i64 s width ≠ 0
instance (width : Int) (l : List Int) : Decidable (Bad width l) := by unfold Bad; infer_instance
def wrongS (width : Int) (l : List Int) : Int := if 256 < l.length then 3 else if Bad width l then 1 else 0
theorem wrong_loop (width : Int) (hw : 0 ≤ width) (l : List Int) (hn : l.length ≤ 256) : ∀ (rest pre : List Int) (k : Nat), l = pre ++ rest → rest.length < k →
  chain_wrong.l0 k width l (l.length : Int) (pre.length : Int) = some (if Bad width rest then 1 else 0)
 | [], pre, 0, _, hk => by omega
 | [], pre, k + 1, hp, hk => by
  have e : pre.length = l.length := by rw [hp]; simp
  simp only [chain_wrong.l0]
  rw [if_neg (by omega), if_neg (by simp [Bad])]
 | x :: rest, pre, 0, _, hk => by omega
 | x :: rest, pre, k + 1, hp, hk => by
  have e : l.length = pre.length + rest.length + 1 := by rw [hp]; simp; omega
  have hp' : l = (pre ++ [x]) ++ rest := by rw [hp]; simp
  have ew : wrap64 ((pre.length : Int) + 1) = ((pre ++ [x]).length : Int) := by rw [wrap_nat _ (by omega)]; simp
  have erd : rd l (pre.length : Int) = x := rd_at hp
  simp only [List.length_cons] at hk
  have hb : Bad width (x :: rest) ↔ (x < 0 ∨ shr .i64 x width ≠ 0) ∨ Bad width rest := by simp [Bad]
  simp only [chain_wrong.l0]
  rw [if_pos (by omega), if_pos (by omega), if_pos (by omega), erd, ew, if_pos hw]
  by_cases h0 : x < 0
  ·rw [if_pos h0, if_pos (hb.2 (.inl (.inl h0)))]
  ·rw [if_neg h0]
   by_cases h1 : shr .i64 x width = 0
   ·rw [if_pos h1, wrong_loop width hw l hn rest (pre ++ [x]) k hp' (by omega)]
    by_cases h2 : Bad width rest
    ·rw [if_pos h2, if_pos (hb.2 (.inr h2))]
    ·rw [if_neg h2, if_neg fun h => ?_]
     rcases hb.1 h with (h3 | h3) | h3
     ·exact h0 h3
     ·exact h3 h1
     ·exact h2 h3
   ·rw [if_neg h1, if_pos (hb.2 (.inl (.inr h1)))]
theorem wrong_calls (width : Int) (hw : 0 ≤ width) (A : Option Addr) (c : Nat) (l : List Int) (w : World) (h : Sl w A c l) :
  Calls Tryz.prog 60 #[.int .i64 width, .slice A l.length c] w fun e w' => e = .returned (.int .i64 (wrongS width l)) ∧ Drawn0 w w' := by
 refine chain_wrong.calls (l.length + 1) _ _ _ l _ w h.C h.le ?_
 unfold chain_wrong.f wrongS
 by_cases h1 : 256 < l.length
 ·rw [if_pos (by omega), if_pos h1]
 ·rw [if_neg (by omega), if_neg h1]
  exact wrong_loop width hw l (by omega) l [] _ rfl (by omega)
def Un (l : List Int) (x : Int) : Prop := x ∈ l ∧ x ≠ 0
def Rl (l : List Int) (x y : Int) : Prop := Un l x ∧ Un l y ∧ (y ≠ x ∧ Go.bits .and .i64 x y = x)
def LeastIs (l : List Int) (n : Nat) : Prop := ∃ (u : List Int) (m : Nat), u.Nodup ∧ (∀ x, x ∈ u ↔ Un l x) ∧ Most (Rl l) m ∧ n = max (u.length - m) 1
theorem least_of {l u : List Int} {m : Nat} (hu : u.Nodup) (hm : ∀ x, x ∈ u ↔ Un l x) (h : Most (fun s k => s < u.length ∧ k < u.length ∧ (k ≠ s ∧ Go.bits .and .i64 u[s]! u[k]! = u[s]!)) m) : LeastIs l (max (u.length - m) 1) := by
 refine ⟨u, m, hu, hm, ?_, rfl⟩
 have h1 : Most (fun s k => s < u.length ∧ k < u.length ∧ (u[k]! ≠ u[s]! ∧ Go.bits .and .i64 u[s]! u[k]! = u[s]!)) m := by
  have : (fun s k => s < u.length ∧ k < u.length ∧ (u[k]! ≠ u[s]! ∧ Go.bits .and .i64 u[s]! u[k]! = u[s]!)) = fun s k => s < u.length ∧ k < u.length ∧ (k ≠ s ∧ Go.bits .and .i64 u[s]! u[k]! = u[s]!) := by
   funext s k
   apply propext
   constructor
   ·rintro ⟨a, b, c, d⟩
    exact ⟨a, b, fun e => c (by rw [e]), d⟩
   ·rintro ⟨a, b, c, d⟩
    refine ⟨a, b, fun e => c ?_, d⟩
    rw [getElem!_pos u k b, getElem!_pos u s a] at e
    exact (List.getElem_inj hu).1 e
  rw [this]; exact h
 have h2 := most_values hu (R := fun x y => y ≠ x ∧ Go.bits .and .i64 x y = x) h1
 have : Rl l = fun x y => x ∈ u ∧ y ∈ u ∧ (y ≠ x ∧ Go.bits .and .i64 x y = x) := by
  funext x y
  unfold Rl
  rw [hm, hm]
 rw [this]; exact h2
end Go.Proofs.YtcmllllbmgcnlaaGreat.Ch
end
section
namespace Go.Proofs.YtcmllllbmgcnlaaGreat.Ch
open Go.Shelf Go.Sort Go.Lib Go.RowKit Go.Proofs.YtcmllllbmgcnlaaGreat.G Go.Proofs.YtcmllllbmgcnlaaGreat.Tup Go.Proofs.YtcmllllbmgcnlaaGreatW.PrintWords Go.Proofs.YtcmllllbmgcnlaaGreatW.PrintLast Go.Proofs.YtcmllllbmgcnlaaGreatW.PrintMore
set_option linter.unusedVariables false
set_option linter.unusedSimpArgs false
def Tryz.sort94_ren : Go.Shelf.Ren := ⟨fun | 5 => 101 | 8 => 95 | 7 => 125 | 19 => 120 | 20 => 121 | 10 => 134 | 11 => 135 | 12 => 136 | 13 => 137 | 14 => 138 | 15 => 139 | 16 => 140 | 17 => 141 | 18 => 142 | 30 => 146 | 31 => 130 | 32 => 131 | 33 => 147 | 34 => 148 | 35 => 122 | 40 => 149 | n => n, fun | 23 => 23 | 25 => 3 | 3 => 3 | 32 => 136 | 22 => 23 | 0 => 0 | 44 => 154 | 46 => 156 | 4 => 4 | 36 => 173 | 35 => 172 | 41 => 101 | 5 => 5 | 9 => 9 | 53 => 181 | 57 => 185 | 63 => 195 | 64 => 119 | n => n, fun | n => n⟩
theorem Tryz.sort94 : Go.Proofs.SlLaysM.n5 Tryz.prog Tryz.sort94_ren := {
 mixed := by kernel_rfl
 f5 := ⟨Tryz.f101.name, by decide, Tryz.func101.trans (congrArg some (by kernel_rfl))⟩
 f7 := ⟨Tryz.f125.name, by decide, Tryz.func125.trans (congrArg some (by kernel_rfl))⟩
 f8 := Tryz.func95.trans (congrArg some (by kernel_rfl))
 f10 := ⟨Tryz.f134.name, by decide, Tryz.func134.trans (congrArg some (by kernel_rfl))⟩
 f11 := ⟨Tryz.f135.name, by decide, Tryz.func135.trans (congrArg some (by kernel_rfl))⟩
 f12 := ⟨Tryz.f136.name, by decide, Tryz.func136.trans (congrArg some (by kernel_rfl))⟩
 f13 := ⟨Tryz.f137.name, by decide, Tryz.func137.trans (congrArg some (by kernel_rfl))⟩
 f14 := ⟨Tryz.f138.name, by decide, Tryz.func138.trans (congrArg some (by kernel_rfl))⟩
 f15 := ⟨Tryz.f139.name, by decide, Tryz.func139.trans (congrArg some (by kernel_rfl))⟩
 f16 := ⟨Tryz.f140.name, by decide, Tryz.func140.trans (congrArg some (by kernel_rfl))⟩
 f17 := ⟨Tryz.f141.name, by decide, Tryz.func141.trans (congrArg some (by kernel_rfl))⟩
 f18 := ⟨Tryz.f142.name, by decide, Tryz.func142.trans (congrArg some (by kernel_rfl))⟩
 f19 := Tryz.func120.trans (congrArg some (by kernel_rfl))
 f20 := Tryz.func121.trans (congrArg some (by kernel_rfl))
 f30 := ⟨Tryz.f146.name, by decide, Tryz.func146.trans (congrArg some (by kernel_rfl))⟩
 f31 := Tryz.func130.trans (congrArg some (by kernel_rfl))
 f32 := Tryz.func131.trans (congrArg some (by kernel_rfl))
 f33 := ⟨Tryz.f147.name, by decide, Tryz.func147.trans (congrArg some (by kernel_rfl))⟩
 f34 := ⟨Tryz.f148.name, by decide, Tryz.func148.trans (congrArg some (by kernel_rfl))⟩
 f35 := ⟨Tryz.f122.name, by decide, Tryz.func122.trans (congrArg some (by kernel_rfl))⟩
 f40 := ⟨Tryz.f149.name, by decide, Tryz.func149.trans (congrArg some (by kernel_rfl))⟩
 t0 := Tryz.underlying0
 a0 := Tryz.isAgg0
 z0 := Tryz.sizeOf0
 v0 := Tryz.zeroValue0
 t3 := Tryz.underlying3
 a3 := Tryz.isAgg3
 z3 := Tryz.sizeOf3
 v3 := Tryz.zeroValue3
 t4 := Tryz.underlying4
 a4 := Tryz.isAgg4
 z4 := Tryz.sizeOf4
 v4 := Tryz.zeroValue4
 t5 := Tryz.underlying5
 a5 := Tryz.isAgg5
 z5 := Tryz.sizeOf5
 v5 := Tryz.zeroValue5
 t9 := Tryz.underlying9
 a9 := Tryz.isAgg9
 z9 := Tryz.sizeOf9
 v9 := Tryz.zeroValue9
 t22 := Tryz.underlying23
 a22 := Tryz.isAgg23
 z22 := Tryz.sizeOf23
 v22 := Tryz.zeroValue23
 t23 := Tryz.underlying23
 a23 := Tryz.isAgg23
 z23 := Tryz.sizeOf23
 v23 := Tryz.zeroValue23
 t25 := Tryz.underlying3
 a25 := Tryz.isAgg3
 z25 := Tryz.sizeOf3
 v25 := Tryz.zeroValue3
 t32 := Tryz.underlying136
 a32 := Tryz.isAgg136
 z32 := Tryz.sizeOf136
 v32 := Tryz.zeroValue136
 t35 := Tryz.underlying172
 a35 := Tryz.isAgg172
 z35 := Tryz.sizeOf172
 v35 := Tryz.zeroValue172
 t36 := Tryz.underlying173
 a36 := Tryz.isAgg173
 z36 := Tryz.sizeOf173
 v36 := Tryz.zeroValue173
 t41 := Tryz.underlying101
 a41 := Tryz.isAgg101
 z41 := Tryz.sizeOf101
 v41 := Tryz.zeroValue101
 t44 := Tryz.underlying154
 a44 := Tryz.isAgg154
 z44 := Tryz.sizeOf154
 v44 := Tryz.zeroValue154
 t46 := Tryz.underlying156
 a46 := Tryz.isAgg156
 z46 := Tryz.sizeOf156
 v46 := Tryz.zeroValue156
 t53 := Tryz.underlying181
 a53 := Tryz.isAgg181
 z53 := Tryz.sizeOf181
 v53 := Tryz.zeroValue181
 t57 := Tryz.underlying185
 a57 := Tryz.isAgg185
 z57 := Tryz.sizeOf185
 v57 := Tryz.zeroValue185
 t63 := Tryz.underlying195
 a63 := Tryz.isAgg195
 z63 := Tryz.sizeOf195
 v63 := Tryz.zeroValue195
 t64 := Tryz.underlying119
 a64 := Tryz.isAgg119
 z64 := Tryz.sizeOf119
 v64 := Tryz.zeroValue119 }
def Tryz.compact95_ren : Go.Shelf.Ren := ⟨fun | 43 => 102 | n => n, fun | 22 => 23 | 23 => 3 | 3 => 3 | 4 => 4 | 0 => 0 | n => n, fun | n => n⟩
theorem Tryz.compact95 : Go.Proofs.SlLaysE.n43 Tryz.prog Tryz.compact95_ren := {
 mixed := by kernel_rfl
 f43 := ⟨Tryz.f102.name, by decide, Tryz.func102.trans (congrArg some (by kernel_rfl))⟩
 t0 := Tryz.underlying0
 a0 := Tryz.isAgg0
 z0 := Tryz.sizeOf0
 v0 := Tryz.zeroValue0
 t3 := Tryz.underlying3
 a3 := Tryz.isAgg3
 z3 := Tryz.sizeOf3
 v3 := Tryz.zeroValue3
 t4 := Tryz.underlying4
 a4 := Tryz.isAgg4
 z4 := Tryz.sizeOf4
 v4 := Tryz.zeroValue4
 t22 := Tryz.underlying23
 a22 := Tryz.isAgg23
 z22 := Tryz.sizeOf23
 v22 := Tryz.zeroValue23
 a23 := Tryz.isAgg3
 z23 := Tryz.sizeOf3 }
def Tryz.del96_ren : Go.Shelf.Ren := ⟨fun | 10 => 103 | 6 => 126 | n => n, fun | 22 => 23 | 23 => 3 | 25 => 41 | 3 => 3 | 4 => 4 | 0 => 0 | n => n, fun | n => n⟩
theorem Tryz.del96 : Go.Proofs.SlLaysH.n10 Tryz.prog Tryz.del96_ren := {
 mixed := by kernel_rfl
 f6 := ⟨Tryz.f126.name, by decide, Tryz.func126.trans (congrArg some (by kernel_rfl))⟩
 f10 := ⟨Tryz.f103.name, by decide, Tryz.func103.trans (congrArg some (by kernel_rfl))⟩
 t0 := Tryz.underlying0
 a0 := Tryz.isAgg0
 z0 := Tryz.sizeOf0
 v0 := Tryz.zeroValue0
 t3 := Tryz.underlying3
 a3 := Tryz.isAgg3
 z3 := Tryz.sizeOf3
 v3 := Tryz.zeroValue3
 t4 := Tryz.underlying4
 a4 := Tryz.isAgg4
 z4 := Tryz.sizeOf4
 v4 := Tryz.zeroValue4
 t22 := Tryz.underlying23
 a22 := Tryz.isAgg23
 z22 := Tryz.sizeOf23
 v22 := Tryz.zeroValue23
 a23 := Tryz.isAgg3
 z23 := Tryz.sizeOf3
 t25 := Tryz.underlying41
 a25 := Tryz.isAgg41
 z25 := Tryz.sizeOf41
 v25 := Tryz.zeroValue41 }
def Tryz.idx104_ren : Go.Shelf.Ren := ⟨fun | 6 => 126 | n => n, fun | 22 => 23 | 23 => 3 | 25 => 41 | 3 => 3 | 0 => 0 | 4 => 4 | n => n, fun | n => n⟩
theorem Tryz.idx104 : Go.Proofs.SlLaysH.n6 Tryz.prog Tryz.idx104_ren := {
 mixed := by kernel_rfl
 f6 := ⟨Tryz.f126.name, by decide, Tryz.func126.trans (congrArg some (by kernel_rfl))⟩
 t0 := Tryz.underlying0
 a0 := Tryz.isAgg0
 z0 := Tryz.sizeOf0
 v0 := Tryz.zeroValue0
 t3 := Tryz.underlying3
 a3 := Tryz.isAgg3
 z3 := Tryz.sizeOf3
 v3 := Tryz.zeroValue3
 t4 := Tryz.underlying4
 a4 := Tryz.isAgg4
 z4 := Tryz.sizeOf4
 v4 := Tryz.zeroValue4
 t22 := Tryz.underlying23
 a22 := Tryz.isAgg23
 z22 := Tryz.sizeOf23
 v22 := Tryz.zeroValue23
 a23 := Tryz.isAgg3
 z23 := Tryz.sizeOf3
 t25 := Tryz.underlying41
 a25 := Tryz.isAgg41
 z25 := Tryz.sizeOf41
 v25 := Tryz.zeroValue41 }
theorem compact_spec {d : Array Int} (hs : ∀ i j, i < j → j < d.size → d[i]! ≤ d[j]!) : ∀ m, m ≤ d.size → (compactUpTo d m).Pairwise (· < ·) ∧ (∀ x, x ∈ compactUpTo d m ↔ ∃ j, j < m ∧ d[j]! = x)
  | 0, _ => ⟨by simp [compactUpTo], fun x => by simp [compactUpTo]⟩
  | m + 1, hm => by
    obtain ⟨h1, h2⟩ := compact_spec hs m (by omega)
    rw [compactUpTo_succ]
    by_cases hk : keeps d m = true
    · rw [if_pos hk]
      refine ⟨?_, fun x => ?_⟩
      · rw [List.pairwise_append]
        refine ⟨h1, by simp, fun a ha b hb => ?_⟩
        rw [List.mem_singleton] at hb
        subst hb
        obtain ⟨j, hj, rfl⟩ := (h2 a).1 ha
        have hm0 : 0 < m := by omega
        have hne : d[m]! ≠ d[m - 1]! := by
          simp only [keeps, Bool.or_eq_true, decide_eq_true_eq] at hk
          first
            | (rcases hk with hk | hk
               · omega
               · simpa using hk)
            | simpa using hk
        have h3 := hs (m - 1) m (by omega) (by omega)
        by_cases e : j = m - 1
        · subst e; omega
        · have := hs j (m - 1) (by omega) (by omega); omega
      · rw [List.mem_append, h2, List.mem_singleton]
        constructor
        · rintro (⟨j, hj, e⟩ | e)
          · exact ⟨j, by omega, e⟩
          · exact ⟨m, by omega, e.symm⟩
        · rintro ⟨j, hj, e⟩
          rcases Nat.lt_or_eq_of_le (Nat.le_of_lt_succ hj) with h | h
          · exact .inl ⟨j, h, e⟩
          · subst h; exact .inr e.symm
    · rw [if_neg hk, List.append_nil]
      refine ⟨h1, fun x => ?_⟩
      rw [h2]
      constructor
      · rintro ⟨j, hj, e⟩; exact ⟨j, by omega, e⟩
      · rintro ⟨j, hj, e⟩
        rcases Nat.lt_or_eq_of_le (Nat.le_of_lt_succ hj) with h | h
        · exact ⟨j, h, e⟩
        · subst h
          have : 0 < j ∧ d[j]! = d[j - 1]! := by
            simp only [keeps, Bool.or_eq_true, decide_eq_true_eq, not_or] at hk
            first
              | exact ⟨by omega, by simpa using hk.2⟩
              | simpa using hk
          exact ⟨j - 1, by omega, by rw [← this.2]; exact e⟩
def unS (l : List Int) : List Int := (compactUpTo (l.mergeSort fun x y => decide (x ≤ y)).toArray (l.mergeSort fun x y => decide (x ≤ y)).toArray.size).filter fun x => !decide (x = 0)
theorem unS_spec (l : List Int) : (unS l).Nodup ∧ (∀ x, x ∈ unS l ↔ Un l x) ∧ (unS l).length ≤ l.length := by
 obtain ⟨d, hd⟩ : ∃ d, d = (l.mergeSort fun x y => decide (x ≤ y)).toArray := ⟨_, rfl⟩
 have hperm : (l.mergeSort fun x y => decide (x ≤ y)).Perm l := List.mergeSort_perm l _
 have hsort : (l.mergeSort fun x y => decide (x ≤ y)).Pairwise (fun a b => decide (a ≤ b) = true) := List.pairwise_mergeSort (fun a b c h1 h2 => by simp at h1 h2 ⊢; omega) (fun a b => by simp; omega) l
 have hs : ∀ i j, i < j → j < d.size → d[i]! ≤ d[j]! := fun i j hij hj => by
  have hjl : j < (l.mergeSort fun x y => decide (x ≤ y)).length := by rw [hd] at hj; simpa using hj
  have := List.pairwise_iff_getElem.1 hsort i j (by omega) hjl hij
  rw [getElem!_pos d i (by omega), getElem!_pos d j hj]
  subst hd
  simpa using this
 obtain ⟨h1, h2⟩ := compact_spec hs d.size (Nat.le_refl _)
 have hm : ∀ x, x ∈ compactUpTo d d.size ↔ x ∈ l := fun x => by
  rw [h2, ← hperm.mem_iff]
  constructor
  ·rintro ⟨j, hj, rfl⟩
   rw [getElem!_pos d j hj]
   subst hd
   simp
  ·intro hx
   obtain ⟨j, hj, rfl⟩ := List.getElem_of_mem hx
   have hjd : j < d.size := by rw [hd]; simpa using hj
   exact ⟨j, hjd, by rw [getElem!_pos d j hjd]; subst hd; simp⟩
 have hn : (compactUpTo d d.size).Nodup := h1.imp fun h => by omega
 unfold unS
 rw [← hd]
 refine ⟨List.Nodup.sublist List.filter_sublist hn, fun x => ?_, ?_⟩
 ·rw [List.mem_filter, hm]
  simp [Un]
 ·refine Nat.le_trans (List.length_filter_le _ _) ?_
  exact le_of_nodup hn fun x hx => (hm x).1 hx
set_option maxRecDepth 100000 in
theorem closure97 (x : Int) (W : World) : Calls Tryz.prog 104 #[.int .i64 x] W fun e w' => e = .returned (.bool (decide (x = 0))) ∧ ∃ q, w' = W.drewN q := by
 obtain ⟨r, hr⟩ : ∃ r, r = decide (x = 0) := ⟨_, rfl⟩
 have hr2 : (x == 0) = r := by rw [hr]; by_cases h : x = 0 <;> simp [h]
 rw [← hr]
 clear hr
 go_enter Tryz.func104, Tryz.ntmps104
 go_wp2
 all_goals (go_ret; exact ⟨by simp_all, 0, (World.drewN_zero _).symm⟩)
set_option maxRecDepth 100000 in
theorem compact_nil (w : World) : Calls Tryz.prog 102 #[.slice none 0 0] w fun e w' => e = .returned (.slice none 0 0) ∧ w' = w := by
 go_enter Tryz.func102, Tryz.ntmps102
 go_wp2
 go_ret
 exact ⟨rfl, rfl⟩
theorem eg97 : ∀ args w, (callFunc 104 args).run Tryz.prog w = .ok (.enter 104 args) w := enters_of Tryz.func104 (by kernel_rfl) rfl
set_option maxRecDepth 100000 in
theorem del_nil (w : World) : Calls Tryz.prog 103 #[.slice none 0 0, .func (.func 104) #[] #[]] w fun e w' => e = .returned (.slice none 0 0) ∧ w' = w := by
 have hcon := AnyE.slices_IndexFunc_empty Tryz.idx104 none 0 (.func (.func 104) #[] #[]) w
 change Calls Tryz.prog 126 _ _ _ at hcon
 go_enter Tryz.func103, Tryz.ntmps103
 go_wp2_with (go_at_call 126; refine hcon.mono ?_; rintro e w' ⟨rfl, rfl⟩)
 go_ret
 exact ⟨rfl, rfl⟩
def Ow (w : World) (base : Nat) (v : Value) (zs : List Int) : Prop := w.ownsRow base 3 1 v zs.length (zs.map (Value.int .i64))
theorem drewN_0 (w : World) : w.drewN 0 = w := World.drewN_zero _
theorem sort_own (w : World) (base : Nat) (v : Value) (zs : List Int) (h : Ow w base v zs) (hb : base ≤ w.heap.size) (hn : zs.length ≤ 4096) :
  Calls Tryz.prog 101 #[v] w fun e w' => e = .returned (.tuple #[]) ∧ Ow w' base v (zs.mergeSort fun x y => decide (x ≤ y)) ∧ Below base w w' := by
 by_cases hv : v = .slice none 0 0
 ·subst hv
  have hz : zs = [] := by
   rcases h.2 with ⟨_, h0⟩ | ⟨g, cap, cur, e, _⟩
   ·exact List.length_eq_zero_iff.1 h0
   ·cases e
  subst hz
  refine (AnyM.slices_Sort_int_none Tryz.sort94 none 0 w).mono ?_
  rintro e w' ⟨rfl, rfl⟩
  exact ⟨rfl, by simpa using h, Below.refl _ _⟩
 ·obtain ⟨g, cap, rfl, hg, hgl, hnc, hcm, hl, hH⟩ := holds_of_ownsRow h hv
  refine (AnyM.slices_Sort_int Tryz.sort94 g 0 cap zs w hH hgl (by omega)).mono ?_
  rintro e w' ⟨rfl, q, os, rfl⟩
  have hlen : (zs.mergeSort fun x y => decide (x ≤ y)).length = zs.length := List.length_mergeSort zs
  have h1 := ownsRow_putRow (q := q) (k := zs.length) h hlen (Nat.le_refl _)
  rw [List.take_of_length_le (by omega)] at h1
  have h2 := ownsRow_grow h1 0 os
  rw [drewN_0] at h2
  refine ⟨rfl, ?_, ?_⟩
  ·unfold Ow; rw [hlen]; exact h2
  ·have h3 : Below base w (putRow (Value.int .i64) (Sort.ahead w q) g 0 (zs.mergeSort fun x y => decide (x ≤ y)).toArray) := below_putRow (Below.refl base w) hg
   have h4 := below_grow base (putRow (Value.int .i64) (Sort.ahead w q) g 0 (zs.mergeSort fun x y => decide (x ≤ y)).toArray) (Nat.le_trans hb h3.size) 0 os
   rw [drewN_0] at h4
   exact h3.trans h4
theorem compact_own (w : World) (base : Nat) (v : Value) (zs : List Int) (h : Ow w base v zs) (hn : zs.length ≤ 4096) :
  Calls Tryz.prog 102 #[v] w fun e w' => ∃ v', e = .returned v' ∧ Ow w' base v' (compactUpTo zs.toArray zs.toArray.size) ∧ Below base w w' := by
 by_cases hv : v = .slice none 0 0
 ·subst hv
  have hz : zs = [] := by
   rcases h.2 with ⟨_, h0⟩ | ⟨g, cap, cur, e, _⟩
   ·exact List.length_eq_zero_iff.1 h0
   ·cases e
  subst hz
  refine (compact_nil w).mono ?_
  rintro e w' ⟨rfl, rfl⟩
  exact ⟨_, rfl, h, Below.refl _ _⟩
 ·obtain ⟨g, cap, rfl, hg, hgl, hnc, hcm, hl, hH⟩ := holds_of_ownsRow h hv
  have hcl : (compactUpTo zs.toArray zs.toArray.size).length ≤ zs.length := by
   have := List.length_filter_le (keeps zs.toArray) (List.range zs.toArray.size)
   simpa [compactUpTo] using this
  refine (AnyE.slices_Compact Tryz.compact95 (Value.int .i64) (fun _ => rfl) (EqlAt.intD _ _ _) (NeqAt.intD _ _ _) 0 Tryz.zeroValue3 g 0 cap zs.toArray w hH (by simp; omega) (by simpa using hnc)).mono ?_
  rintro e w' ⟨rfl, q, rfl⟩
  obtain ⟨cs, hcs⟩ : ∃ cs, cs = compactUpTo zs.toArray zs.toArray.size := ⟨_, rfl⟩
  rw [← hcs] at hcl ⊢
  have h1 := ownsRow_putRow (q := q) (k := cs.length) h (ys := cs ++ List.replicate (zs.toArray.size - cs.length) 0) (by simp; omega) hcl
  rw [List.take_append_of_le_length (Nat.le_refl _), List.take_length] at h1
  exact ⟨_, rfl, h1, below_putRow (Below.refl base w) hg⟩
theorem del_own (w : World) (base : Nat) (v : Value) (zs : List Int) (h : Ow w base v zs) (hn : zs.length ≤ 4096) :
  Calls Tryz.prog 103 #[v, .func (.func 104) #[] #[]] w fun e w' => ∃ v', e = .returned v' ∧ Ow w' base v' (zs.filter fun x => !decide (x = 0)) ∧ Below base w w' := by
 by_cases hv : v = .slice none 0 0
 ·subst hv
  have hz : zs = [] := by
   rcases h.2 with ⟨_, h0⟩ | ⟨g, cap, cur, e, _⟩
   ·exact List.length_eq_zero_iff.1 h0
   ·cases e
  subst hz
  refine (del_nil w).mono ?_
  rintro e w' ⟨rfl, rfl⟩
  exact ⟨_, rfl, h, Below.refl _ _⟩
 ·obtain ⟨g, cap, rfl, hg, hgl, hnc, hcm, hl, hH⟩ := holds_of_ownsRow h hv
  have hcl : (zs.filter fun x => !decide (x = 0)).length ≤ zs.length := List.length_filter_le _ _
  refine (AnyE.slices_DeleteFunc Tryz.del96 (Value.int .i64) (fun _ => rfl) (fun x => decide (x = 0)) 104 #[] eg97 0 Tryz.zeroValue3 g 0 cap zs.toArray w (fun W x _ => closure97 x W) (fun n os dk x _ => closure97 x _) hH (by simp; omega) (by simpa using hnc)).mono ?_
  rintro e w' ⟨rfl, q, rfl⟩
  simp only [List.size_toArray]
  obtain ⟨cs, hcs⟩ : ∃ cs, cs = zs.filter fun x => !decide (x = 0) := ⟨_, rfl⟩
  rw [← hcs] at hcl ⊢
  have h1 := ownsRow_putRow (q := q) (k := cs.length) h (ys := cs ++ List.replicate (zs.length - cs.length) 0) (by simp; omega) hcl
  rw [List.take_append_of_le_length (Nat.le_refl _), List.take_length] at h1
  exact ⟨_, rfl, h1, below_putRow (Below.refl base w) hg⟩
set_option maxHeartbeats 2000000 in
set_option maxRecDepth 100000 in
theorem cunlike_calls (A : Option Addr) (c : Nat) (l : List Int) (w : World) (h : Sl w A c l) (hn : l.length ≤ 256) :
  Calls Tryz.prog 84 #[.slice A l.length c] w fun e w' => ∃ v, e = .returned v ∧ Ow w' w.heap.size v (unS l) ∧ Below w.heap.size w w' := by
 have hC := clI_calls w A l.length c (l.map (Value.int .i64)) (by simp) (fun e => by
   subst e
   by_cases h0 : 0 < l.length
   ·obtain ⟨ad, e, _⟩ := sl_cells h 0 h0
    cases e
   ·omega) (fun ad e j u hj => by
   rw [List.getElem?_map] at hj
   obtain ⟨x, hx, rfl⟩ := Option.map_eq_some_iff.1 hj
   obtain ⟨hjl, hx⟩ := List.getElem?_eq_some_iff.1 hx
   obtain ⟨ad', e', hc⟩ := sl_cells h j hjl
   rw [e] at e'
   injection e' with e'
   subst e'
   rw [hc, hx]) (fun u hu => by
   obtain ⟨x, _, rfl⟩ := List.mem_map.1 hu
   rfl) (by omega) (by have : maxLen = 9223372036854775807 := rfl; omega)
 have HN := Aside0.mk hn
 have HC := Aside0.mk hC
 obtain ⟨r, hr⟩ : ∃ r, r = unS l := ⟨_, rfl⟩
 have HR := Aside0.mk hr
 rw [← hr]
 clear h hC hr hn
 go_enter Tryz.func84, Tryz.ntmps84
 go_wp2_with (first
  | (go_at_call 44; refine (HC.out).mono ?_; rintro e w1 ⟨v1, rfl, ho1, hb1⟩; have HO1 : Aside0 (Ow w1 w.heap.size v1 l) := ⟨ho1⟩; have HB1 := Aside0.mk hb1; clear ho1 hb1)
  | (go_at_call 101; refine (sort_own _ w.heap.size v1 l HO1.out HB1.out.size (by have := HN.out; omega)).mono ?_; rintro e w2 ⟨rfl, ho2, hb2⟩; have HO2 := Aside0.mk ho2; have HB2 := Aside0.mk hb2; clear ho2 hb2)
  | (go_at_call 102; refine (compact_own _ w.heap.size v1 _ HO2.out (by have := HN.out; rw [List.length_mergeSort]; omega)).mono ?_; rintro e w3 ⟨v3, rfl, ho3, hb3⟩; have HO3 := Aside0.mk ho3; have HB3 := Aside0.mk hb3; clear ho3 hb3)
  | (go_at_call 103; refine (del_own _ w.heap.size v3 _ HO3.out (by
    have h1 := List.length_filter_le (keeps (l.mergeSort fun x y => decide (x ≤ y)).toArray) (List.range (l.mergeSort fun x y => decide (x ≤ y)).toArray.size)
    have := HN.out
    simp only [compactUpTo, List.length_map]
    refine Nat.le_trans h1 ?_
    simp [List.length_mergeSort]; omega)).mono ?_; rintro e w4 ⟨v4, rfl, ho4, hb4⟩; have HO4 := Aside0.mk ho4; have HB4 := Aside0.mk hb4; clear ho4 hb4))
 go_ret
 exact ⟨_, rfl, by rw [HR.out]; exact HO4.out, ((HB1.out.trans HB2.out).trans HB3.out).trans HB4.out⟩
end Go.Proofs.YtcmllllbmgcnlaaGreat.Ch
end
section
namespace Go.Proofs.YtcmllllbmgcnlaaGreat.Ch
set_option linter.unusedVariables false
set_option linter.unusedSimpArgs false
def Pl (n : Nat) (v : Int) : Prop := v = -1 ∨ ∃ k : Nat, k < n ∧ v = k
theorem Pl.neg {n : Nat} {v : Int} (h : Pl n v) (hn : v < 0) : v = -1 := by
 rcases h with h | ⟨k, _, h⟩ <;> omega
theorem Pl.pos {n : Nat} {v : Int} (h : Pl n v) (hn : 0 ≤ v) : ∃ k : Nat, k < n ∧ v = k := by
 rcases h with h | h
 ·omega
 ·exact h
def put (f : Nat → Int) (i : Nat) (v : Int) : Nat → Int := fun j => if j = i then v else f j
theorem put_same (f : Nat → Int) (i : Nat) (v : Int) : put f i v i = v := if_pos rfl
theorem put_ne (f : Nat → Int) {i j : Nat} (v : Int) (h : j ≠ i) : put f i v j = f j := if_neg h
section
variable {n : Nat} {E : Nat → Nat → Prop}
structure Mt (n : Nat) (E : Nat → Nat → Prop) (cur : Int) (tt fr : Nat → Int) : Prop where
 rt : ∀ s, s < n → Pl n (tt s)
 rf : ∀ k, k < n → Pl n (fr k)
 tf : ∀ s, s < n → ∀ k : Nat, tt s = k → fr k = s ∧ E s k ∧ (k : Int) ≠ cur
 ft : ∀ k : Nat, k < n → (k : Int) ≠ cur → ∀ s : Nat, fr k = s → tt s = k
structure Dead (n : Nat) (E : Nat → Nat → Prop) (tt fr : Nat → Int) (D : Nat → Prop) (i : Nat) : Prop where
 dead : ∀ k, D k → k < n ∧ ∃ s : Nat, fr k = s ∧ ∀ k', k' < n → E s k' → D k'
 fail : ∀ s, s < i → s < n → tt s = -1 → ∀ k, k < n → E s k → D k
 later : ∀ s, i ≤ s → s < n → tt s = -1
def NextO (n : Nat) (E : Nat → Nat → Prop) (tt fr : Nat → Int) (i : Nat) : Prop := Mt n E (-1) tt fr ∧ ∃ D, Dead n E tt fr D i
theorem nextO_start (n : Nat) (E : Nat → Nat → Prop) : NextO n E (fun _ => -1) (fun _ => -1) 0 :=
 ⟨⟨fun _ _ => .inl rfl, fun _ _ => .inl rfl, fun s hs k h => by omega, fun k hk _ s h => by omega⟩, fun _ => False, fun _ h => h.elim, fun s hs => absurd hs (Nat.not_lt_zero _), fun _ _ _ => rfl⟩
theorem nextO_fin {tt fr : Nat → Int} (h : NextO n E tt fr n) : ∃ F D, Fin n E fr F D := by
 obtain ⟨hm, D, hd⟩ := h
 refine ⟨(List.range n).filter fun s => decide (tt s < 0), D, ?_⟩
 have hmem : ∀ s, s ∈ (List.range n).filter (fun s => decide (tt s < 0)) ↔ s < n ∧ tt s < 0 := fun s => by simp [List.mem_filter]
 refine ⟨?_, ?_, List.Nodup.sublist List.filter_sublist List.nodup_range, ?_, ?_, ?_⟩
 ·intro k k' hk hk' h0 e
  obtain ⟨s, hs, e1⟩ := (hm.rf k hk).pos h0
  have h1 := hm.ft k hk (by omega) s e1
  have h2 := hm.ft k' hk' (by omega) s (by omega)
  omega
 ·intro k hk h0
  obtain ⟨s, hs, e1⟩ := (hm.rf k hk).pos h0
  have h1 := hm.ft k hk (by omega) s e1
  rw [e1]
  exact ⟨hs, (hm.tf s hs k h1).2.1⟩
 ·intro s
  rw [hmem]
  constructor
  ·rintro ⟨hs, h⟩
   refine ⟨hs, fun k hk e => ?_⟩
   have := hm.ft k hk (by omega) s e
   omega
  ·rintro ⟨hs, h⟩
   refine ⟨hs, Int.not_le.1 fun h0 => ?_⟩
   obtain ⟨k, hk, e⟩ := (hm.rt s hs).pos h0
   exact h k hk (hm.tf s hs k e).1
 ·intro k hk
  obtain ⟨h1, s, h2, h3⟩ := hd.dead k hk
  exact ⟨h1, by omega, fun k' hk' he => h3 k' hk' (by rw [h2] at he; exact he)⟩
 ·intro s hs k hk he
  obtain ⟨hs1, hs2⟩ := (hmem s).1 hs
  exact hd.fail s hs1 hs1 ((hm.rt s hs1).neg hs2) k hk he
structure Tree (n : Nat) (E : Nat → Nat → Prop) (tt : Nat → Int) (i : Nat) (by_ : Nat → Int) (dep : Nat → Nat) : Prop where
 rng : ∀ k, k < n → Pl n (by_ k)
 up : ∀ k, k < n → ∀ s : Nat, by_ k = s → E s k ∧ (s = i ∨ ∃ q : Nat, q < n ∧ tt s = q ∧ 0 ≤ by_ q ∧ dep q < dep k)
def Rch (tt : Nat → Int) (i : Nat) (by_ : Nat → Int) (s : Nat) : Prop := s = i ∨ ∃ q : Nat, tt s = q ∧ 0 ≤ by_ q
structure Bfs (n : Nat) (E : Nat → Nat → Prop) (tt fr : Nat → Int) (i : Nat) (by_ : Nat → Int) (todo : List Nat) (cur : Option (Nat × Nat)) : Prop where
 tree : ∃ dep, Tree n E tt i by_ dep
 held : ∀ k, k < n → 0 ≤ by_ k → 0 ≤ fr k
 que : ∀ s ∈ todo, s < n ∧ Rch tt i by_ s
 curr : ∀ s k0, cur = some (s, k0) → s < n ∧ Rch tt i by_ s ∧ ∀ k, k < k0 → k < n → E s k → 0 ≤ by_ k
 proc : ∀ s, s < n → Rch tt i by_ s → s ∈ todo ∨ (∃ k0, cur = some (s, k0)) ∨ ∀ k, k < n → E s k → 0 ≤ by_ k
theorem bfs_start {tt fr : Nat → Int} {i : Nat} (hi : i < n) : Bfs n E tt fr i (fun _ => -1) [i] none :=
 ⟨⟨fun _ => 0, fun _ _ => .inl rfl, fun k hk s h => by omega⟩, fun k hk h => by omega, fun s hs => by
   rw [List.mem_singleton] at hs; subst hs; exact ⟨hi, .inl rfl⟩, fun s k0 h => by (cases h), fun s hs h => by
   rcases h with h | ⟨q, _, h⟩
   ·exact .inl (List.mem_singleton.2 h)
   ·exact absurd (show (0 : Int) ≤ -1 from h) (by decide)⟩
theorem bfs_pop {tt fr by_ : Nat → Int} {i s : Nat} {todo : List Nat} (h : Bfs n E tt fr i by_ (s :: todo) none) : Bfs n E tt fr i by_ todo (some (s, 0)) :=
 ⟨h.tree, h.held, fun x hx => h.que x (List.mem_cons_of_mem _ hx), fun x k0 e => by
   obtain ⟨rfl, rfl⟩ : s = x ∧ 0 = k0 := by injection e with e; injection e with a b; exact ⟨a, b⟩
   exact ⟨(h.que _ (List.mem_cons_self ..)).1, (h.que _ (List.mem_cons_self ..)).2, fun k hk => absurd hk (Nat.not_lt_zero _)⟩, fun x hx hr => by
   rcases h.proc x hx hr with h1 | ⟨_, h1⟩ | h1
   ·rcases List.mem_cons.1 h1 with h1 | h1
    ·exact .inr (.inl ⟨0, by rw [h1]⟩)
    ·exact .inl h1
   ·cases h1
   ·exact .inr (.inr h1)⟩
theorem bfs_skip {tt fr by_ : Nat → Int} {i s k : Nat} {todo : List Nat} (h : Bfs n E tt fr i by_ todo (some (s, k))) (hk : k < n → E s k → 0 ≤ by_ k) : Bfs n E tt fr i by_ todo (some (s, k + 1)) :=
 ⟨h.tree, h.held, h.que, fun x k0 e => by
   obtain ⟨rfl, rfl⟩ : s = x ∧ k + 1 = k0 := by injection e with e; injection e with a b; exact ⟨a, b⟩
   obtain ⟨h1, h2, h3⟩ := h.curr s k rfl
   refine ⟨h1, h2, fun k' hk' hn he => ?_⟩
   rcases Nat.lt_or_eq_of_le (Nat.le_of_lt_succ hk') with h4 | h4
   ·exact h3 k' h4 hn he
   ·subst h4; exact hk hn he, fun x hx hr => by
   rcases h.proc x hx hr with h1 | ⟨k0, h1⟩ | h1
   ·exact .inl h1
   ·refine .inr (.inl ⟨k + 1, ?_⟩)
    injection h1 with h1; injection h1 with a b; rw [a]
   ·exact .inr (.inr h1)⟩
theorem bfs_done {tt fr by_ : Nat → Int} {i s : Nat} {todo : List Nat} (h : Bfs n E tt fr i by_ todo (some (s, n))) : Bfs n E tt fr i by_ todo none :=
 ⟨h.tree, h.held, h.que, fun x k0 e => (by cases e), fun x hx hr => by
   rcases h.proc x hx hr with h1 | ⟨k0, h1⟩ | h1
   ·exact .inl h1
   ·obtain ⟨rfl, rfl⟩ : s = x ∧ n = k0 := by injection h1 with e; injection e with a b; exact ⟨a, b⟩
    exact .inr (.inr fun k hk he => (h.curr s n rfl).2.2 k hk hk he)
   ·exact .inr (.inr h1)⟩
theorem tree_put {tt by_ : Nat → Int} {i s k : Nat} {dep : Nat → Nat} (ht : Tree n E tt i by_ dep) (hs : s < n) (hrt : ∀ q : Nat, tt s = q → q < n) (hr : Rch tt i by_ s) (hk : k < n) (he : E s k) (hb : by_ k < 0) :
  ∃ dep, Tree n E tt i (put by_ k s) dep := by
 have hold : ∀ j, j < n → 0 ≤ by_ j → j ≠ k := fun j hj h e => by subst e; omega
 refine ⟨fun j => if j = k then dep (tt s).toNat + 1 else dep j, fun j hj => ?_, fun j hj x hx => ?_⟩
 ·unfold put
  by_cases e : j = k
  ·rw [if_pos e]; exact .inr ⟨s, hs, rfl⟩
  ·rw [if_neg e]; exact ht.rng j hj
 ·by_cases e : j = k
  ·subst e
   rw [put_same] at hx
   have hxs : x = s := by omega
   subst hxs
   refine ⟨he, ?_⟩
   rcases hr with h | ⟨q, h1, h2⟩
   ·exact .inl h
   ·have hqk : q ≠ j := fun e => by subst e; omega
    refine .inr ⟨q, hrt q h1, h1, by rw [put_ne _ _ hqk]; exact h2, ?_⟩
    simp only [if_neg hqk, if_pos, h1]
    simp
  ·rw [put_ne _ _ e] at hx
   obtain ⟨h1, h2⟩ := ht.up j hj x hx
   refine ⟨h1, ?_⟩
   rcases h2 with h2 | ⟨q, q1, q2, q3, q4⟩
   ·exact .inl h2
   ·have hqk := hold q q1 q3
    exact .inr ⟨q, q1, q2, by rw [put_ne _ _ hqk]; exact q3, by simp only [if_neg hqk, if_neg e]; exact q4⟩
theorem bfs_push {tt fr by_ : Nat → Int} {i s k f : Nat} {todo : List Nat} (hm : Mt n E (-1) tt fr) (h : Bfs n E tt fr i by_ todo (some (s, k))) (hk : k < n) (he : E s k) (hb : by_ k < 0) (hf : fr k = f) (hfn : f < n) :
  Bfs n E tt fr i (put by_ k s) (todo ++ [f]) (some (s, k + 1)) := by
 obtain ⟨hs, hr, hprev⟩ := h.curr s k rfl
 obtain ⟨dep, ht⟩ := h.tree
 have hge : ∀ j, 0 ≤ by_ j → 0 ≤ put by_ k s j := fun j hj => by
  unfold put; by_cases e : j = k
  ·rw [if_pos e]; omega
  ·rw [if_neg e]; exact hj
 have hmono : ∀ x, Rch tt i by_ x → Rch tt i (put by_ k s) x := fun x hx => by
  rcases hx with h | ⟨q, h1, h2⟩
  ·exact .inl h
  ·exact .inr ⟨q, h1, hge q h2⟩
 have htf : tt f = k := hm.ft k hk (by omega) f hf
 refine ⟨tree_put ht hs (fun q hq => ?_) hr hk he hb, fun j hj h0 => ?_, fun x hx => ?_, fun x k0 e => ?_, fun x hx hr' => ?_⟩
 ·obtain ⟨q', h1, h2⟩ := (hm.rt s hs).pos (by omega)
  omega
 ·by_cases e : j = k
  ·subst e; omega
  ·rw [put_ne _ _ e] at h0; exact h.held j hj h0
 ·rcases List.mem_append.1 hx with hx | hx
  ·exact ⟨(h.que x hx).1, hmono x (h.que x hx).2⟩
  ·rw [List.mem_singleton] at hx
   subst hx
   exact ⟨hfn, .inr ⟨k, htf, by rw [put_same]; omega⟩⟩
 ·obtain ⟨rfl, rfl⟩ : s = x ∧ k + 1 = k0 := by injection e with e; injection e with a b; exact ⟨a, b⟩
  refine ⟨hs, hmono s hr, fun j hj hn hej => ?_⟩
  rcases Nat.lt_or_eq_of_le (Nat.le_of_lt_succ hj) with h4 | h4
  ·exact hge j (hprev j h4 hn hej)
  ·subst h4; rw [put_same]; omega
 ·have : Rch tt i by_ x ∨ x = f := by
   rcases hr' with h1 | ⟨q, h1, h2⟩
   ·exact .inl (.inl h1)
   ·by_cases e : q = k
    ·subst e
     right
     have := (hm.tf x hx q h1).1
     omega
    ·rw [put_ne _ _ e] at h2; exact .inl (.inr ⟨q, h1, h2⟩)
  rcases this with h1 | h1
  ·rcases h.proc x hx h1 with h2 | ⟨k0, h2⟩ | h2
   ·exact .inl (List.mem_append_left _ h2)
   ·refine .inr (.inl ⟨k + 1, ?_⟩)
    injection h2 with h2; injection h2 with a b; rw [a]
   ·exact .inr (.inr fun j hj hej => hge j (h2 j hj hej))
  ·exact .inl (List.mem_append_right _ (List.mem_singleton.2 h1))
theorem bfs_fail {tt fr by_ : Nat → Int} {i : Nat} (hi : i < n) (hm : Mt n E (-1) tt fr) {D : Nat → Prop} (hd : Dead n E tt fr D i) (h : Bfs n E tt fr i by_ [] none) : NextO n E tt fr (i + 1) := by
 refine ⟨hm, fun k => D k ∨ (k < n ∧ 0 ≤ by_ k), fun k hk => ?_, fun s hs hn h0 k hk he => ?_, fun s hs hn => hd.later s (by omega) hn⟩
 ·rcases hk with hk | ⟨hk, h0⟩
  ·obtain ⟨h1, s, h2, h3⟩ := hd.dead k hk
   exact ⟨h1, s, h2, fun k' hk' he => .inl (h3 k' hk' he)⟩
  ·obtain ⟨s, hs, e⟩ := (hm.rf k hk).pos (h.held k hk h0)
   refine ⟨hk, s, e, fun k' hk' he => .inr ⟨hk', ?_⟩⟩
   have hto := hm.ft k hk (by omega) s e
   rcases h.proc s hs (.inr ⟨k, hto, h0⟩) with h1 | ⟨_, h1⟩ | h1
   ·cases h1
   ·cases h1
   ·exact h1 k' hk' he
 ·by_cases e : s = i
  ·subst e
   rcases h.proc s hn (.inl rfl) with h1 | ⟨_, h1⟩ | h1
   ·cases h1
   ·cases h1
   ·exact .inr ⟨hk, h1 k hk he⟩
  ·exact .inl (hd.fail s (by omega) hn h0 k hk he)
structure Aug (n : Nat) (E : Nat → Nat → Prop) (tt fr : Nat → Int) (D : Nat → Prop) (i : Nat) (by_ : Nat → Int) (dep : Nat → Nat) (cur : Int) (tt' fr' : Nat → Int) : Prop where
 mt : Mt n E cur tt' fr'
 pl : Pl n cur
 at_ : ∀ k : Nat, cur = k → ¬ D k ∧ 0 ≤ by_ k ∧ ∀ s, s < n → (s = i ∨ ∃ q : Nat, tt s = q ∧ 0 ≤ by_ q ∧ dep q < dep k) → tt' s = tt s
 dsame : ∀ k, D k → fr' k = fr k
 grow : ∀ s, s < n → 0 ≤ tt s → 0 ≤ tt' s
 only : ∀ s, s < n → 0 ≤ tt' s → 0 ≤ tt s ∨ s = i
 fin : cur = -1 → 0 ≤ tt' i
theorem aug_start {tt fr by_ : Nat → Int} {i s k : Nat} {todo : List Nat} (hm : Mt n E (-1) tt fr) {D : Nat → Prop} (hd : Dead n E tt fr D i) (h : Bfs n E tt fr i by_ todo (some (s, k))) (hk : k < n) (he : E s k) (hb : by_ k < 0) (hf : fr k < 0) :
  ∃ dep, Tree n E tt i (put by_ k s) dep ∧ Aug n E tt fr D i (put by_ k s) dep k tt fr := by
 obtain ⟨hs, hr, hprev⟩ := h.curr s k rfl
 obtain ⟨dep, ht⟩ := h.tree
 obtain ⟨dep', ht'⟩ := tree_put ht hs (fun q hq => by obtain ⟨q', h1, h2⟩ := (hm.rt s hs).pos (by omega); omega) hr hk he hb
 refine ⟨dep', ht', ⟨hm.rt, hm.rf, fun s' hs' x hx => ⟨(hm.tf s' hs' x hx).1, (hm.tf s' hs' x hx).2.1, fun e => ?_⟩, fun x hx hne s' e => hm.ft x hx (by omega) s' e⟩, .inr ⟨k, hk, rfl⟩, fun k' e => ?_, fun _ _ => rfl, fun _ _ h => h, fun _ _ h => .inl h, fun e => by omega⟩
 ·have := (hm.tf s' hs' x hx).1
  have hxk : x = k := by omega
  subst hxk; omega
 ·have : k' = k := by omega
  subst this
  refine ⟨fun hD => ?_, by rw [put_same]; omega, fun _ _ _ => rfl⟩
  obtain ⟨_, s', e', _⟩ := hd.dead k' hD
  omega
theorem aug_step {tt fr by_ tt' fr' : Nat → Int} {i : Nat} {dep : Nat → Nat} {D : Nat → Prop} {k : Nat} (hi : i < n) (hti : tt i = -1) (hm : Mt n E (-1) tt fr) (hd : Dead n E tt fr D i) (ht : Tree n E tt i by_ dep) (h : Aug n E tt fr D i by_ dep k tt' fr') :
  ∃ s : Nat, s < n ∧ by_ k = s ∧ Pl n (tt' s) ∧ Aug n E tt fr D i by_ dep (tt' s) (put tt' s k) (put fr' k s) ∧ ∀ q : Nat, tt' s = q → dep q < dep k := by
 obtain ⟨hnD, hb, hsame⟩ := h.at_ k rfl
 have hk : k < n := by
  obtain ⟨k', h1, h2⟩ := h.pl.pos (by omega)
  omega
 obtain ⟨s, hs, e⟩ := (ht.rng k hk).pos hb
 obtain ⟨he, hup⟩ := ht.up k hk s e
 have hts : tt' s = tt s := hsame s hs (by
  rcases hup with h1 | ⟨q, h1, h2, h3, h4⟩
  ·exact .inl h1
  ·exact .inr ⟨q, h2, h3, h4⟩)
 refine ⟨s, hs, e, h.mt.rt s hs, ⟨⟨fun s' hs' => ?_, fun k' hk' => ?_, fun s' hs' x hx => ?_, fun x hx hne s' hx' => ?_⟩, h.mt.rt s hs, fun q hq => ?_, fun k' hk' => ?_, fun s' hs' h0 => ?_, fun s' hs' h0 => ?_, fun h1 => ?_⟩, fun q hq => ?_⟩
 ·by_cases e' : s' = s
  ·rw [e', put_same]; exact .inr ⟨k, hk, rfl⟩
  ·rw [put_ne _ _ e']; exact h.mt.rt s' hs'
 ·by_cases e' : k' = k
  ·rw [e', put_same]; exact .inr ⟨s, hs, rfl⟩
  ·rw [put_ne _ _ e']; exact h.mt.rf k' hk'
 ·by_cases e' : s' = s
  ·subst e'
   rw [put_same] at hx
   have hxk : x = k := by omega
   subst hxk
   refine ⟨put_same .., he, fun hc => ?_⟩
   exact (h.mt.tf s' hs x hc.symm).2.2 rfl
  ·rw [put_ne _ _ e'] at hx
   obtain ⟨h1, h2, h3⟩ := h.mt.tf s' hs' x hx
   have hxk : x ≠ k := fun hc => h3 (by rw [hc])
   refine ⟨by rw [put_ne _ _ hxk]; exact h1, h2, fun hc => ?_⟩
   have := (h.mt.tf s hs x hc.symm).1
   omega
 ·by_cases e' : x = k
  ·subst e'
   rw [put_same] at hx'
   have : s' = s := by omega
   subst this
   exact put_same ..
  ·rw [put_ne _ _ e'] at hx'
   have h1 := h.mt.ft x hx (by omega) s' hx'
   have : s' ≠ s := fun hc => by subst hc; omega
   rw [put_ne _ _ this]; exact h1
 ·
  rcases hup with h1 | ⟨q', h1, h2, h3, h4⟩
  ·subst h1; omega
  ·have hqq : q = q' := by omega
   subst hqq
   refine ⟨fun hD => ?_, h3, fun s' hs' hor => ?_⟩
   ·obtain ⟨_, s'', e'', h5⟩ := hd.dead q hD
    have h6 := (hm.tf s hs q h2).1
    have : s'' = s := by omega
    subst this
    exact hnD (h5 k hk he)
   ·have hne : s' ≠ s := fun hc => by
     subst hc
     rcases hor with h6 | ⟨q2, h6, h7, h8⟩
     ·subst h6; omega
     ·have : q2 = q := by omega
      subst this; omega
    rw [put_ne _ _ hne]
    refine hsame s' hs' ?_
    rcases hor with h6 | ⟨q2, h6, h7, h8⟩
    ·exact .inl h6
    ·exact .inr ⟨q2, h6, h7, by omega⟩
 ·have : k' ≠ k := fun hc => by subst hc; exact hnD hk'
  rw [put_ne _ _ this]; exact h.dsame k' hk'
 ·by_cases e' : s' = s
  ·rw [e', put_same]; omega
  ·rw [put_ne _ _ e']; exact h.grow s' hs' h0
 ·by_cases e' : s' = s
  ·subst e'
   rcases hup with h1 | ⟨q', _, h2, _⟩
   ·exact .inr h1
   ·exact .inl (by omega)
  ·rw [put_ne _ _ e'] at h0; exact h.only s' hs' h0
 ·rcases hup with h2 | ⟨q', _, h2, _⟩
  ·rw [h2, put_same]; omega
  ·omega
 ·rcases hup with h1 | ⟨q', h1, h2, h3, h4⟩
  ·subst h1; omega
  ·have : q = q' := by omega
   subst this; exact h4
theorem aug_done {tt fr by_ tt' fr' : Nat → Int} {i : Nat} {dep : Nat → Nat} {D : Nat → Prop} (hi : i < n) (hd : Dead n E tt fr D i) (hm : Mt n E (-1) tt fr) (h : Aug n E tt fr D i by_ dep (-1) tt' fr') : NextO n E tt' fr' (i + 1) := by
 refine ⟨h.mt, D, fun k hk => ?_, fun s hs hn h0 k hk he => ?_, fun s hs hn => ?_⟩
 ·obtain ⟨h1, s, h2, h3⟩ := hd.dead k hk
  exact ⟨h1, s, by rw [h.dsame k hk]; exact h2, h3⟩
 ·have hsi : s ≠ i := fun e => by subst e; have := h.fin rfl; omega
  refine hd.fail s (by omega) hn ?_ k hk he
  refine (hm.rt s hn).neg (Int.not_le.1 fun hc => ?_)
  have := h.grow s hn hc
  omega
 ·refine (h.mt.rt s hn).neg (Int.not_le.1 fun hc => ?_)
  rcases h.only s hn hc with h1 | h1
  ·have := hd.later s (by omega) hn; omega
  ·omega
end
def unr (n : Nat) (by_ : Nat → Int) : Nat := ((List.range n).filter fun k => decide (by_ k < 0)).length
theorem unr_le (n : Nat) (by_ : Nat → Int) : unr n by_ ≤ n := by
 have := List.length_filter_le (fun k => decide (by_ k < 0)) (List.range n)
 simpa [unr] using this
theorem unr_put {n : Nat} {by_ : Nat → Int} {k : Nat} {s : Nat} (hk : k < n) (hb : by_ k < 0) : unr n (put by_ k s) + 1 = unr n by_ := by
 have h1 : (k :: (List.range n).filter fun j => decide (put by_ k s j < 0)).Nodup := by
  rw [List.nodup_cons]
  refine ⟨fun h => ?_, List.Nodup.sublist List.filter_sublist List.nodup_range⟩
  have := (List.mem_filter.1 h).2
  rw [put_same] at this
  simp at this; omega
 have h2 : ((List.range n).filter fun j => decide (by_ j < 0)).Nodup := List.Nodup.sublist List.filter_sublist List.nodup_range
 have := eq_of_nodup h1 h2 fun x => by
  rw [List.mem_cons, List.mem_filter, List.mem_filter]
  simp only [List.mem_range, decide_eq_true_eq]
  by_cases e : x = k
  ·subst e; simp [hk, hb]
  ·rw [put_ne _ _ e]; simp [e]
 simpa [unr] using this
end Go.Proofs.YtcmllllbmgcnlaaGreat.Ch
end
