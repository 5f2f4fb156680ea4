/- Own texts, joined and cut to what the claim stands on: BtPlain, BtA, BtFind, BtCopy, BtSet, BtClT, BtClN, BtClI. -/
import Derived.Lib.Overlaps
import Derived.Lib.AppendZeros
import Derived.Lib.AppendZerosOnto
import Derived.Lib.JoinLaws
import Derived.Lib.SliceRun
import Derived.Laws.CopyRow
import Derived.Laws.CopyOwn
import Derived.Laws.Externs
import Derived.Laws.NewBlocks
import Derived.Deep.RegionLaw
import Derived.WalkSpells
import Derived.Lib.LazyBuf
import Derived.Test.YtcmllllbmgcnlaaGreatU10
section
namespace Go.Proofs.YtcmllllbmgcnlaaGreat.Tup
open Go.RowKit Go.Proofs.YtcmllllbmgcnlaaGreat.G Go.Proofs.YtcmllllbmgcnlaaGreatW.PrintWords Go.Proofs.YtcmllllbmgcnlaaGreatW.PrintLast Go.Proofs.YtcmllllbmgcnlaaGreatW.PrintMore
set_option linter.unusedVariables false
set_option linter.unusedSimpArgs false
abbrev Tp := List Int
def Lt (o a b : Tp) : Prop := cmpL o a b < 0
instance decLt (o a b : Tp) : Decidable (Lt o a b) := by unfold Lt; infer_instance
def Up (o : Tp) (L : List Tp) : Prop := L.Pairwise (Lt o)
theorem Lt.trans {o a b c : Tp} (h : Lt o a b) (k : Lt o b c) : Lt o a c := by
 unfold Lt at *
 have h1 := cmpL_trans o a b c (by omega) (by omega)
 rcases Int.lt_or_eq_of_le h1 with h2 | h2
 ·exact h2
 ·exfalso
  have h3 := cmpL_flip o a c
  have h4 := cmpL_trans o b c a (by omega) (by omega)
  have h5 := cmpL_flip o a b
  omega
theorem Lt.irrefl {o a : Tp} (h : Lt o a a) : False := by
 unfold Lt at h
 have := (cmpL_zero o a a).2 (fun _ _ => rfl)
 omega
theorem Lt.asymm {o a b : Tp} (h : Lt o a b) (k : Lt o b a) : False := (h.trans k).irrefl
theorem Lt.tri {o a b : Tp} (ha : Fit o a) (hb : Fit o b) : Lt o a b ∨ a = b ∨ Lt o b a := by
 unfold Lt
 have h1 := cmpL_flip o a b
 by_cases h : cmpL o a b = 0
 ·exact .inr (.inl (same_of_order ha hb ((cmpL_zero o a b).1 h)))
 ·omega
inductive BT where
 | mk (ts : List Tp) (kids : List BT)
def weave : List (List Tp) → List Tp → List Tp
 | [], ts => ts
 | k :: _, [] => k
 | k :: ks, t :: ts => k ++ t :: weave ks ts
mutual
def BT.io : BT → List Tp
 | .mk ts kids => weave (BT.ios kids) ts
def BT.ios : List BT → List (List Tp)
 | [] => []
 | k :: ks => k.io :: BT.ios ks
end
mutual
def BT.Ok : BT → Prop
 | .mk ts kids => (kids = [] ∨ kids.length = ts.length + 1) ∧ BT.Oks kids
def BT.Oks : List BT → Prop
 | [] => True
 | k :: ks => k.Ok ∧ BT.Oks ks
end
theorem BT.ios_eq (kids : List BT) : BT.ios kids = kids.map BT.io := by
 induction kids with
 | nil => rfl
 | cons k ks ih => simp [BT.ios, ih]
theorem BT.io_mk (ts : List Tp) (kids : List BT) : (BT.mk ts kids).io = weave (kids.map BT.io) ts := by rw [BT.io, BT.ios_eq]
theorem BT.oks_iff (kids : List BT) : BT.Oks kids ↔ ∀ k ∈ kids, k.Ok := by
 induction kids with
 | nil => simp [BT.Oks]
 | cons k ks ih => simp [BT.Oks, ih]
theorem BT.ok_mk (ts : List Tp) (kids : List BT) : (BT.mk ts kids).Ok ↔ (kids = [] ∨ kids.length = ts.length + 1) ∧ ∀ k ∈ kids, k.Ok := by rw [BT.Ok, BT.oks_iff]
def ahead : List (List Tp) → List Tp → Nat → List Tp
 | k :: ks, t :: ts, i + 1 => k ++ t :: ahead ks ts i
 | _, _, _ => []
def behind0 : List (List Tp) → List Tp → List Tp
 | k :: ks, t :: ts => t :: (k ++ behind0 ks ts)
 | _, _ => []
def behind (ks : List (List Tp)) (ts : List Tp) (i : Nat) : List Tp := behind0 (ks.drop (i + 1)) (ts.drop i)
theorem weave_zero (k : List Tp) (ks : List (List Tp)) (ts : List Tp) (h : ks.length = ts.length) : weave (k :: ks) ts = k ++ behind0 ks ts := by
 induction ts generalizing k ks with
 | nil => cases ks with
  | nil => simp [weave, behind0]
  | cons => simp at h
 | cons t ts ih => cases ks with
  | nil => simp at h
  | cons k2 ks => simp only [weave, behind0]; rw [ih k2 ks (by simpa using h)]
theorem weave_at (ks : List (List Tp)) (ts : List Tp) (i : Nat) (h : ks.length = ts.length + 1) (hi : i ≤ ts.length) : weave ks ts = ahead ks ts i ++ ((ks[i]?.getD []) ++ behind ks ts i) := by
 induction i generalizing ks ts with
 | zero => cases ks with
  | nil => simp at h
  | cons k ks =>
   have e := weave_zero k ks ts (by simpa using h)
   cases ts <;> simpa [ahead, behind] using e
 | succ i ih => cases ks with
  | nil => simp at h
  | cons k ks => cases ts with
   | nil => simp at hi
   | cons t ts =>
    simp only [weave, ahead]
    rw [ih ks ts (by simpa using h) (by simpa using hi)]
    simp [behind]
theorem ahead_take (ks : List (List Tp)) (ts : List Tp) (i : Nat) : ahead ks ts i = ahead (ks.take i) (ts.take i) i := by
 induction i generalizing ks ts with
 | zero => simp [ahead]
 | succ i ih => cases ks with
  | nil => simp [ahead]
  | cons k ks => cases ts with
   | nil => simp [ahead]
   | cons t ts => simp only [ahead, List.take_succ_cons]; rw [ih]
theorem ahead_mem_ts (ks : List (List Tp)) (ts : List Tp) (i : Nat) (hk : i ≤ ks.length) (hi : i ≤ ts.length) (t : Tp) (h : t ∈ ts.take i) : t ∈ ahead ks ts i := by
 induction i generalizing ks ts with
 | zero => simp at h
 | succ i ih => cases ks with
  | nil => simp at hk
  | cons k ks => cases ts with
   | nil => simp at hi
   | cons u ts =>
    simp only [List.take_succ_cons, List.mem_cons] at h
    simp only [ahead, List.mem_append, List.mem_cons]
    rcases h with h | h
    ·exact .inr (.inl h)
    ·exact .inr (.inr (ih ks ts (by simpa using hk) (by simpa using hi) h))
theorem weave_mem_ts (ks : List (List Tp)) (ts : List Tp) (h : ks = [] ∨ ks.length = ts.length + 1) (t : Tp) (ht : t ∈ ts) : t ∈ weave ks ts := by
 rcases h with rfl | h
 ·simpa [weave] using ht
 ·rw [weave_at ks ts ts.length h (Nat.le_refl _)]
  exact List.mem_append_left _ (ahead_mem_ts ks ts ts.length (by omega) (Nat.le_refl _) t (by simpa using ht))
theorem weave_ts_sub (ks : List (List Tp)) (ts : List Tp) (h : ks = [] ∨ ks.length = ts.length + 1) : ts.Sublist (weave ks ts) := by
 induction ts generalizing ks with
 | nil => simp
 | cons t ts ih =>
  rcases h with rfl | h
  ·simp [weave]
  ·cases ks with
   | nil => simp at h
   | cons k ks =>
    simp only [weave]
    exact ((ih ks (by right; simpa using h)).cons_cons t).trans (List.sublist_append_right _ _)
theorem weave_len (ks : List (List Tp)) (ts : List Tp) (h : ks = [] ∨ ks.length = ts.length + 1) : ts.length ≤ (weave ks ts).length := (weave_ts_sub ks ts h).length_le
theorem Up.ts {o : Tp} {ks : List (List Tp)} {ts : List Tp} (h : ks = [] ∨ ks.length = ts.length + 1) (hu : Up o (weave ks ts)) : Up o ts := hu.sublist (weave_ts_sub ks ts h)
def idx (o : Tp) (ts : List Tp) (t : Tp) : Nat := (ts.takeWhile fun a => decide (Lt o a t)).length
theorem idx_le (o : Tp) (ts : List Tp) (t : Tp) : idx o ts t ≤ ts.length := (List.takeWhile_prefix _).length_le
theorem idx_lt {o : Tp} {ts : List Tp} {t : Tp} {j : Nat} (h : j < idx o ts t) (hj : j < ts.length) : Lt o ts[j] t := by
 induction ts generalizing j with
 | nil => simp at hj
 | cons a ts ih =>
  by_cases hl : Lt o a t
  ·have e : idx o (a :: ts) t = idx o ts t + 1 := by simp [idx, hl]
   cases j with
   | zero => exact hl
   | succ j => exact ih (by omega) (by simpa using hj)
  ·have e : idx o (a :: ts) t = 0 := by simp [idx, hl]
   omega
theorem idx_at {o : Tp} {ts : List Tp} {t : Tp} (hi : idx o ts t < ts.length) : ¬ Lt o (ts[idx o ts t]) t := by
 induction ts with
 | nil => simp at hi
 | cons a ts ih =>
  by_cases h : Lt o a t
  ·have e : idx o (a :: ts) t = idx o ts t + 1 := by simp [idx, h]
   rw [e] at hi
   simp only [e, List.getElem_cons_succ]
   exact ih (by simpa using hi)
  ·have e : idx o (a :: ts) t = 0 := by simp [idx, h]
   simp only [e, List.getElem_cons_zero]
   exact h
theorem idx_ge {o : Tp} {ts : List Tp} {t : Tp} (hu : Up o ts) {j : Nat} (h : idx o ts t ≤ j) (hj : j < ts.length) : ¬ Lt o ts[j] t := by
 by_cases e : idx o ts t = j
 ·subst e; exact idx_at hj
 ·intro hl
  have h1 := List.pairwise_iff_getElem.1 hu (idx o ts t) j (by omega) hj (by omega)
  exact idx_at (by omega) (h1.trans hl)
theorem idx_unique {o : Tp} {ts : List Tp} {t : Tp} (hu : Up o ts) (i : Nat) (hi : i ≤ ts.length) (h1 : ∀ j (hj : j < ts.length), j < i → Lt o ts[j] t) (h2 : ∀ j (hj : j < ts.length), i ≤ j → ¬ Lt o ts[j] t) : i = idx o ts t := by
 by_cases h : i < idx o ts t
 ·exact absurd (idx_lt h (by have := idx_le o ts t; omega)) (h2 i (by have := idx_le o ts t; omega) (Nat.le_refl _))
 ·by_cases h' : idx o ts t < i
  ·exact absurd (h1 _ (by omega) h') (idx_at (by omega))
  ·omega
def insO (o : Tp) (t : Tp) (L : List Tp) : List Tp := L.take (idx o L t) ++ t :: L.drop (idx o L t)
theorem insO_append (o t : Tp) (X Y Z : List Tp) (hX : ∀ a ∈ X, Lt o a t) (hZ : ∀ a ∈ Z, ¬ Lt o a t) : insO o t (X ++ (Y ++ Z)) = X ++ (insO o t Y ++ Z) := by
 have e : idx o (X ++ (Y ++ Z)) t = X.length + idx o Y t := by
  unfold idx
  rw [List.takeWhile_append_of_pos (fun a ha => by simpa using hX a ha), List.length_append]
  congr 1
  induction Y with
  | nil =>
   cases Z with
   | nil => rfl
   | cons z Z => simp [hZ z (by simp)]
  | cons y Y ih =>
   by_cases h : Lt o y t
   ·simp [h, ih]
   ·simp [h]
 unfold insO
 rw [e, List.take_length_add_append, List.drop_length_add_append, List.take_append_of_le_length (idx_le o Y t), List.drop_append_of_le_length (idx_le o Y t)]
 simp
theorem insO_len (o t : Tp) (L : List Tp) : (insO o t L).length = L.length + 1 := by
 have := idx_le o L t
 simp [insO]; omega
theorem insO_mem (o t : Tp) (L : List Tp) (a : Tp) : a ∈ insO o t L ↔ a = t ∨ a ∈ L := by
 unfold insO
 rw [List.mem_append, List.mem_cons]
 constructor
 ·rintro (h | h | h)
  ·exact .inr (List.mem_of_mem_take h)
  ·exact .inl h
  ·exact .inr (List.mem_of_mem_drop h)
 ·rintro (h | h)
  ·exact .inr (.inl h)
  ·rw [← List.take_append_drop (idx o L t) L, List.mem_append] at h
   rcases h with h | h
   ·exact .inl h
   ·exact .inr (.inr h)
theorem insO_up {o t : Tp} {L : List Tp} (hu : Up o L) (ht : Fit o t) (hL : ∀ a ∈ L, Fit o a) (hn : t ∉ L) : Up o (insO o t L) := by
 have hlt : ∀ a ∈ L.take (idx o L t), Lt o a t := fun a ha => by
  obtain ⟨j, hj, rfl⟩ := List.getElem_of_mem ha
  have hj2 : j < idx o L t := by simp at hj; omega
  rw [List.getElem_take]
  exact idx_lt hj2 _
 have hge : ∀ a ∈ L.drop (idx o L t), Lt o t a := fun a ha => by
  obtain ⟨j, hj, rfl⟩ := List.getElem_of_mem ha
  rw [List.getElem_drop]
  have hj2 : idx o L t + j < L.length := by simp at hj; omega
  have h1 := idx_ge (t := t) hu (j := idx o L t + j) (by omega) hj2
  have hm : L[idx o L t + j] ∈ L := List.getElem_mem _
  rcases Lt.tri (hL _ hm) ht with h | h | h
  ·exact absurd h h1
  ·exact absurd (h ▸ hm) hn
  ·exact h
 unfold Up insO
 rw [List.pairwise_append, List.pairwise_cons]
 refine ⟨hu.sublist (List.take_sublist _ _), ⟨hge, hu.sublist (List.drop_sublist _ _)⟩, fun a ha b hb => ?_⟩
 rcases List.mem_cons.1 hb with rfl | hb
 ·exact hlt a ha
 ·exact (hlt a ha).trans (hge b hb)
theorem around {o t : Tp} {ks : List (List Tp)} {ts : List Tp} (h : ks.length = ts.length + 1) (hu : Up o (weave ks ts)) (hf : ∀ a ∈ weave ks ts, Fit o a) (ht : Fit o t) (hn : t ∉ ts) :
  (∀ a ∈ ahead ks ts (idx o ts t), Lt o a t) ∧ (∀ a ∈ behind ks ts (idx o ts t), Lt o t a) := by
 have hi := idx_le o ts t
 have hut := Up.ts (.inr h) hu
 have e := weave_at ks ts (idx o ts t) h hi
 rw [e] at hu
 unfold Up at hu
 rw [List.pairwise_append, List.pairwise_append] at hu
 obtain ⟨hA, ⟨hK, hB, hKB⟩, hAB⟩ := hu
 constructor
 ·intro a ha
  by_cases h0 : idx o ts t = 0
  ·rw [h0] at ha; simp [ahead] at ha
  ·
   obtain ⟨j, hj⟩ : ∃ j, idx o ts t = j + 1 := ⟨idx o ts t - 1, by omega⟩
   have hjl : j < ts.length := by omega
   have h1 : Lt o ts[j] t := idx_lt (by omega) hjl
   have hlast : ∀ (ks : List (List Tp)) (ts : List Tp) (j : Nat) (hj : j < ts.length), j < ks.length → ∃ X, ahead ks ts (j + 1) = X ++ [ts[j]] := by
    intro ks ts j
    induction j generalizing ks ts with
    | zero =>
     intro hj hk
     match ks, ts with
     | k :: ks, t :: ts => exact ⟨k, by simp [ahead]⟩
    | succ j ih =>
     intro hj hk
     match ks, ts with
     | k :: ks, t :: ts =>
      obtain ⟨X, hX⟩ := ih ks ts (by simpa using hj) (by simpa using hk)
      exact ⟨k ++ t :: X, by simp only [ahead, hX]; simp⟩
   obtain ⟨X, hX⟩ := hlast ks ts j hjl (by omega)
   rw [hj, hX] at ha hA
   rw [List.mem_append] at ha
   rcases ha with ha | ha
   ·exact ((List.pairwise_append.1 hA).2.2 a ha _ (by simp)).trans h1
   ·simp at ha; subst ha; exact h1
 ·intro a ha
  by_cases hl : idx o ts t < ts.length
  ·have h1 := idx_at hl
   have hm : ts[idx o ts t] ∈ weave ks ts := weave_mem_ts ks ts (.inr h) _ (List.getElem_mem _)
   have h2 : Lt o t ts[idx o ts t] := by
    rcases Lt.tri (hf _ hm) ht with h | h | h
    ·exact absurd h h1
    ·exact absurd (h ▸ List.getElem_mem _) hn
    ·exact h
   have hfirst : ∃ X, behind ks ts (idx o ts t) = ts[idx o ts t] :: X := by
    unfold behind
    rw [List.drop_eq_getElem_cons hl]
    match hk : ks.drop (idx o ts t + 1) with
    | [] => rw [List.drop_eq_nil_iff] at hk; omega
    | k :: r => exact ⟨_, rfl⟩
   obtain ⟨X, hX⟩ := hfirst
   rw [hX] at ha hB
   rcases List.mem_cons.1 ha with rfl | ha
   ·exact h2
   ·exact h2.trans ((List.pairwise_cons.1 hB).1 a ha)
  ·have : ts.drop (idx o ts t) = [] := List.drop_eq_nil_of_le (by omega)
   unfold behind at ha
   rw [this] at ha
   cases hk : ks.drop (idx o ts t + 1) <;> rw [hk] at ha <;> simp [behind0] at ha
end Go.Proofs.YtcmllllbmgcnlaaGreat.Tup
end
section
namespace Go.Proofs.YtcmllllbmgcnlaaGreat.Tup
open Go.RowKit Go.Proofs.YtcmllllbmgcnlaaGreat.G Go.Proofs.YtcmllllbmgcnlaaGreatW.PrintWords Go.Proofs.YtcmllllbmgcnlaaGreatW.PrintLast Go.Proofs.YtcmllllbmgcnlaaGreatW.PrintMore
set_option linter.unusedVariables false
set_option linter.unusedSimpArgs false
structure Sl (w : World) (A : Option Addr) (c : Nat) (l : List Int) : Prop where
 C : Kd.C (Kd.int .i64) w A l.length l
 le : l.length ≤ c
theorem Sl.below {w w1 : World} {A : Option Addr} {c : Nat} {l : List Int} (h : Sl w A c l) (hb : Below w.heap.size w w1) : Sl w1 A c l := ⟨Kd.C_below h.C hb, h.le⟩
theorem Sl.drewN {w : World} {A : Option Addr} {c : Nat} {l : List Int} (h : Sl w A c l) (n : Nat) : Sl (w.drewN n) A c l := ⟨Kd.C_drewN h.C n, h.le⟩
theorem Sl.V {w : World} {A : Option Addr} {c : Nat} {l : List Int} (h : Sl w A c l) : Kd.V (Kd.int .i64) 3 w w.heap.size (fun k => k < w.heap.size) (.slice A l.length c) l := Kd.V_mk h.le (Kd.C_F (Kd.heap_int .i64) h.C)
theorem Sl.small {w : World} {A : Option Addr} {c : Nat} {l : List Int} (h : Sl w A c l) : l.length ≤ 9223372036854775807 := Kd.F_max (Kd.C_F (Kd.heap_int .i64) h.C)
theorem R_sl {w : World} {base : Nat} {ok : Nat → Prop} {v : Value} {r : List Int} (h : Kd.R (Kd.int .i64) 3 w base ok v r) : ∃ A c, v = .slice A r.length c ∧ Sl w A c r := by
 obtain ⟨A, c, e, hl, hc⟩ := Kd.R_reads h
 exact ⟨A, c, e, hc, hl⟩
structure Since (w0 w' : World) : Prop where
 b : Below w0.heap.size w0 w'
theorem Since.refl (w : World) : Since w w := ⟨Below.refl _ _⟩
theorem Since.drew {w w' : World} (h : Since w w') : Since w w'.drew := ⟨below_drew h.b⟩
theorem Since.drewN {w w' : World} (h : Since w w') (n : Nat) : Since w (w'.drewN n) := ⟨pw_below_drewN h.b n⟩
theorem Since.step {w w1 w2 : World} (h : Since w w1) (hb : Below w1.heap.size w1 w2) : Since w w2 := ⟨below_then h.b h.b.size hb⟩
theorem Since.alloc {w w1 : World} (h : Since w w1) (o : Obj) : Since w (w1.alloc o) := ⟨below_alloc h.b o⟩
theorem Since.sl {w w' : World} {A : Option Addr} {c : Nat} {l : List Int} (h : Since w w') (hs : Sl w A c l) : Sl w' A c l := hs.below h.b
theorem Since.trans {w w1 w2 : World} (h : Since w w1) (k : Since w1 w2) : Since w w2 := h.step k.b
theorem Since.ofDrawn {w w' : World} (h : Drawn0 w w') : Since w w' := ⟨h.below⟩
theorem right_calls (A0 : Option Addr) (c0 : Nat) (o : List Int) (w : World) (h0 : Sl w A0 c0 o) :
  Calls Tryz.prog 69 #[.slice A0 o.length c0] w fun e w' => e = .returned (.bool (decide (Rt o))) ∧ Drawn0 w w' :=
 tuple_Right.calls (o.length + 1) _ _ o _ w h0.C h0.le (right_is _ o (by omega))
theorem cmp_calls (A0 : Option Addr) (c0 : Nat) (o : List Int) (A1 : Option Addr) (c1 : Nat) (a : List Int) (A2 : Option Addr) (c2 : Nat) (b : List Int) (w : World) (h0 : Sl w A0 c0 o) (h1 : Sl w A1 c1 a) (h2 : Sl w A2 c2 b) :
  Calls Tryz.prog 107 #[.slice A0 o.length c0, .slice A1 a.length c1, .slice A2 b.length c2] w fun e w' => e = .returned (.int .i64 (cmpS o a b)) ∧ Below w.heap.size w w' :=
 tuple_Cmp.calls (o.length + 4) _ _ o _ _ _ a _ _ _ b _ w h0.C h0.le h1.V h2.V (cmp_is _ o a b (by omega))
theorem head_calls (A0 : Option Addr) (c0 : Nat) (o : List Int) (k : Int) (A1 : Option Addr) (c1 : Nat) (a : List Int) (A2 : Option Addr) (c2 : Nat) (b : List Int) (w : World) (h0 : Sl w A0 c0 o) (h1 : Sl w A1 c1 a) (h2 : Sl w A2 c2 b) :
  Calls Tryz.prog 78 #[.slice A0 o.length c0, .int .i64 k, .slice A1 a.length c1, .slice A2 b.length c2] w fun e w' => e = .returned (.bool (headS o k a b)) ∧ Below w.heap.size w w' :=
 tuple_Head.calls (o.length + 4) _ _ o _ _ _ _ a _ _ _ b _ w h0.C h0.le h1.V h2.V (head_is _ o k a b (by omega))
theorem same_calls (A0 : Option Addr) (c0 : Nat) (a : List Int) (A1 : Option Addr) (c1 : Nat) (b : List Int) (w : World) (h0 : Sl w A0 c0 a) (h1 : Sl w A1 c1 b) (hn : a.length ≤ 9223372036854775806) :
  Calls Tryz.prog 53 #[.slice A0 a.length c0, .slice A1 b.length c1] w fun e w' => e = .returned (.bool (decide (a = b))) ∧ Drawn0 w w' :=
 vestryref04_Same.calls (a.length + 1) _ _ a _ _ b _ w h0.C h0.le h1.C h1.le (same_is _ a b hn (by omega))
def KN : Kd Nat := Kd.scalar (fun b => Value.pointer (some ⟨b, 0, none⟩)) (fun _ => rfl)
abbrev KT : Kd (List Int) := Kd.slice 3 (Kd.int .i64)
theorem tup_at {W : World} {A : Option Addr} {n : Nat} {ts : List Tp} (h : Kd.C KT W A n ts) (i : Nat) (hi : i < ts.length) :
  ∃ ad Ai ci, A = some ad ∧ W.cell? (ad.add i) = some (.slice Ai (ts[i]).length ci) ∧ Sl W Ai ci ts[i] := by
 have hn : ts.length = n := h.1
 obtain ⟨ad, c, e, hl, hK, hc⟩ := Kd.C_get h ([] : List Int) (i : Int) (by omega) (by omega)
 have eg : ts.getD ((i : Int)).toNat [] = ts[i] := by simp [hi]
 rw [eg] at hK
 obtain ⟨Ai, ci, rfl, hle, hC⟩ := hK
 refine ⟨ad, Ai, ci, e, ?_, hC, hle⟩
 have := hc 0 _ rfl
 simpa [Kd.slice] using this
theorem nod_at {W : World} {A : Option Addr} {n : Nat} {ps : List Nat} (h : Kd.C KN W A n ps) (i : Nat) (hi : i < ps.length) :
  ∃ ad, A = some ad ∧ W.cell? (ad.add i) = some (.pointer (some ⟨ps[i], 0, none⟩)) := by
 have hn : ps.length = n := h.1
 obtain ⟨ad, c, e, hl, hK, hc⟩ := Kd.C_get h (0 : Nat) (i : Int) (by omega) (by omega)
 have eg : ps.getD ((i : Int)).toNat 0 = ps[i] := by simp [hi]
 rw [eg] at hK
 have hK' : c = [Value.pointer (some ⟨ps[i], 0, none⟩)] := hK
 refine ⟨ad, e, ?_⟩
 have := hc 0 _ (by rw [hK']; rfl)
 simpa [KN, Kd.scalar] using this
inductive NodeF (ok : Nat → Prop) (W : World) : Nat → BT → Prop
 | mk (b : Nat) (A0 : Option Addr) (c0 : Nat) (A1 : Option Addr) (c1 : Nat) (ts : List Tp) (kids : List BT) (ps : List Nat) (hok : ok b)
  (h0 : W.cell? ⟨b, 0, none⟩ = some (.slice A0 ts.length c0)) (h1 : W.cell? ⟨b, 1, none⟩ = some (.slice A1 ps.length c1)) (hc0 : ts.length ≤ c0) (hc1 : ps.length ≤ c1) (hl : ps.length = kids.length)
  (hT : Kd.F KT W ok A0 ts.length ts) (hN : Kd.F KN W ok A1 ps.length ps) (hk : ∀ (i : Nat) (h : i < kids.length) (h' : i < ps.length), NodeF ok W ps[i] kids[i]) : NodeF ok W b (.mk ts kids)
theorem cell_step {ok : Nat → Prop} {W W1 : World} (hm : ∀ k, ok k → k < W.heap.size → W1.heap[k]? = W.heap[k]?) {b j : Nat} {v : Value} (hok : ok b) (h : W.cell? ⟨b, j, none⟩ = some v) : W1.cell? ⟨b, j, none⟩ = some v := by
 have hb := hm b hok (World.block_lt_of_cell? W _ h)
 rw [← h]; simp [World.cell?, hb]
theorem NodeF.step {ok : Nat → Prop} {W W1 : World} (hm : ∀ k, ok k → k < W.heap.size → W1.heap[k]? = W.heap[k]?) {b : Nat} {T : BT} (h : NodeF ok W b T) : NodeF ok W1 b T := by
 induction h with
 | mk b A0 c0 A1 c1 ts kids ps hok h0 h1 hc0 hc1 hl hT hN hk ih =>
  exact .mk b A0 c0 A1 c1 ts kids ps hok (cell_step hm hok h0) (cell_step hm hok h1) hc0 hc1 hl (Kd.F_step hT hm) (Kd.F_step hN hm) ih
theorem NodeF.under {ok : Nat → Prop} {W W1 : World} {b : Nat} {T : BT} (h : NodeF ok W b T) (hb : Below W.heap.size W W1) : NodeF ok W1 b T := h.step fun k _ hk => hb.block k hk
theorem NodeF.mono {ok ok' : Nat → Prop} {W : World} (hm : ∀ k, ok k → ok' k) {b : Nat} {T : BT} (h : NodeF ok W b T) : NodeF ok' W b T := by
 induction h with
 | mk b A0 c0 A1 c1 ts kids ps hok h0 h1 hc0 hc1 hl hT hN hk ih =>
  exact .mk b A0 c0 A1 c1 ts kids ps (hm _ hok) h0 h1 hc0 hc1 hl (Kd.F_mono hT hm) (Kd.F_mono hN hm) ih
theorem cmpS_fit {o a b : Tp} (ha : Fit o a) (hb : Fit o b) : cmpS o a b = cmpL o a b := by unfold cmpS; rw [if_pos ⟨ha, hb⟩]
set_option maxHeartbeats 1000000 in
set_option maxRecDepth 100000 in
theorem cmpf_calls (W : World) (bx bs : Nat) (Ao : Option Addr) (co : Nat) (o : Tp) (hx : W.cell? ⟨bx, 0, none⟩ = some (.pointer (some ⟨bs, 0, none⟩))) (hs : W.cell? ⟨bs, 1, none⟩ = some (.slice Ao o.length co)) (so : Sl W Ao co o)
  (Aa : Option Addr) (ca : Nat) (a : Tp) (sa : Sl W Aa ca a) (At : Option Addr) (ct : Nat) (t : Tp) (st : Sl W At ct t) :
  Calls Tryz.prog 106 #[.slice Aa a.length ca, .slice At t.length ct, .pointer (some ⟨bx, 0, none⟩)] W fun e w' => e = .returned (.int .i64 (cmpS o a t)) ∧ Below W.heap.size W w' := by
 go_enter Tryz.func106, Tryz.ntmps106
 go_wp2_with (go_at_call 107; refine (cmp_calls Ao co o Aa ca a At ct t _ so sa st).mono ?_; rintro e w' ⟨rfl, hb⟩)
 go_ret
 exact ⟨rfl, hb⟩
set_option maxHeartbeats 2000000 in
set_option maxRecDepth 100000 in
theorem bsf_calls (W : World) (bx bs : Nat) (Ao : Option Addr) (co : Nat) (o : Tp) (hx : W.cell? ⟨bx, 0, none⟩ = some (.pointer (some ⟨bs, 0, none⟩))) (hs : W.cell? ⟨bs, 1, none⟩ = some (.slice Ao o.length co)) (so : Sl W Ao co o)
  (A : Option Addr) (c : Nat) (ts : List Tp) (hT : Kd.C KT W A ts.length ts) (hn : ts.length ≤ 1000000) (hc : ts.length ≤ c) (hfit : ∀ a ∈ ts, Fit o a) (hup : Up o ts) (At : Option Addr) (ct : Nat) (t : Tp) (st : Sl W At ct t) (hft : Fit o t) :
  Calls Tryz.prog 105 #[.slice A ts.length c, .slice At t.length ct, .func (.func 106) #[] #[.pointer (some ⟨bx, 0, none⟩)]] W fun e w' =>
   e = .returned (.tuple #[.int .i64 (idx o ts t), .bool (decide (t ∈ ts))]) ∧ Below W.heap.size W w' := by
 obtain ⟨n, hnn⟩ : ∃ n, n = ts.length := ⟨_, rfl⟩
 have HS := Aside0.mk (Since.refl W)
 have HT := Aside0.mk hT
 have HX := Aside0.mk hx
 have HSS := Aside0.mk hs
 have HF := Aside0.mk hfit
 have HU := Aside0.mk hup
 rw [← hnn] at hn hc ⊢
 have HN := Aside0.mk hnn
 clear hT hx hs hfit hup hnn
 go_enter Tryz.func105, Tryz.ntmps105
 go_wp2
 go_loopg [9, 10] n (fun gk v9 v10 w' => ∃ i j : Nat, v9 = .int .i64 (i : Int) ∧ v10 = .int .i64 (j : Int) ∧ Aside0 (i + gk = j) ∧ j ≤ n ∧ Aside0 (∀ (k : Nat) (hk : k < ts.length), k < i → Lt o ts[k] t) ∧ Aside0 (∀ (k : Nat) (hk : k < ts.length), j ≤ k → ¬ Lt o ts[k] t) ∧ Aside0 (Since W w'))
 case atStart => exact ⟨0, n, by simp, by simp, ⟨by omega⟩, Nat.le_refl _, ⟨fun k hk h => by omega⟩, ⟨fun k hk h => by have := HN.out; omega⟩, HS⟩
 case round =>
  obtain ⟨i, j, rfl, rfl, HI, hj, HA, HB, HW⟩ := hrel
  clear HS
  by_cases hlt : i < j
  ·have hm1 : (i + j) / 2 < n := by omega
   have hm2 : i ≤ (i + j) / 2 := by omega
   have hm3 : (i + j) / 2 < j := by omega
   obtain ⟨m, hm⟩ : ∃ m, m = (i + j) / 2 := ⟨_, rfl⟩
   have HM := Aside0.mk hm
   rw [← hm] at hm1 hm2 hm3
   have hq : ((i : Int) + (j : Int)) / 2 = (m : Int) := by omega
   have hms : m < ts.length := by have := HN.out; omega
   obtain ⟨ad, Ai, ci, rfl, hcell, sl⟩ := tup_at (Kd.C_below HT.out HW.out.b) m hms
   clear hm
   have hcx : wr.cell? ⟨bx, 0, none⟩ = some (.pointer (some ⟨bs, 0, none⟩)) := pw_cell_below HW.out.b HX.out
   have hcs : wr.cell? ⟨bs, 1, none⟩ = some (.slice Ao o.length co) := pw_cell_below HW.out.b HSS.out
   have hfa : Fit o ts[m] := HF.out _ (List.getElem_mem _)
   obtain ⟨a, ha⟩ : ∃ a, a = ts[m] := ⟨_, rfl⟩
   rw [← ha] at hcell sl hfa
   have HAA := Aside0.mk ha
   have HFA := Aside0.mk hfa
   clear ha hfa
   by_cases hl : Lt o a t
   ·have hlt2 : cmpL o a t < 0 := hl
    go_wp2_with (go_at_call 106; refine (cmpf_calls _ bx bs Ao co o hcx hcs (HW.out.sl so) Ai ci a sl At ct t (HW.out.sl st)).mono ?_; rintro e w1 ⟨rfl, hb⟩; rw [cmpS_fit HFA.out hft]; have HW1 := Aside0.mk (HW.out.step hb); clear hb)
    obtain ⟨k2, hk2⟩ : ∃ k2, k2 = j - (m + 1) := ⟨_, rfl⟩
    go_roundg k2
    case measure => have := HI.out; omega
    case rel => exact ⟨m + 1, j, by go_num, rfl, ⟨by omega⟩, hj, ⟨fun k hk h => by
     by_cases hkm : k = m
     ·subst hkm; rw [← HAA.out]; exact hl
     ·have h2 := List.pairwise_iff_getElem.1 HU.out k m hk hms (by omega)
      rw [← HAA.out] at h2
      exact h2.trans hl⟩, HB, HW1⟩
   ·have hlt2 : ¬ cmpL o a t < 0 := hl
    go_wp2_with (go_at_call 106; refine (cmpf_calls _ bx bs Ao co o hcx hcs (HW.out.sl so) Ai ci a sl At ct t (HW.out.sl st)).mono ?_; rintro e w1 ⟨rfl, hb⟩; rw [cmpS_fit HFA.out hft]; have HW1 := Aside0.mk (HW.out.step hb); clear hb)
    obtain ⟨k2, hk2⟩ : ∃ k2, k2 = m - i := ⟨_, rfl⟩
    go_roundg k2
    case measure => have := HI.out; omega
    case rel => exact ⟨i, m, rfl, rfl, ⟨by omega⟩, by omega, HA, ⟨fun k hk h hc => by
     by_cases hkm : k = m
     ·subst hkm; rw [← HAA.out] at hc; exact hl hc
     ·have h2 := List.pairwise_iff_getElem.1 HU.out m k hms hk (by omega)
      rw [← HAA.out] at h2
      exact hl (h2.trans hc)⟩, HW1⟩
  ·have hij : i = j := by have := HI.out; omega
   have HU2 := Aside0.mk (idx_unique HU.out i (by have := HN.out; omega) HA.out (by rw [hij]; exact HB.out))
   clear hij
   by_cases hin : i < n
   ·have his : i < ts.length := by have := HN.out; omega
    obtain ⟨ad, Ai, ci, rfl, hcell, sl⟩ := tup_at (Kd.C_below HT.out HW.out.b) i his
    have hcx : wr.cell? ⟨bx, 0, none⟩ = some (.pointer (some ⟨bs, 0, none⟩)) := pw_cell_below HW.out.b HX.out
    have hcs : wr.cell? ⟨bs, 1, none⟩ = some (.slice Ao o.length co) := pw_cell_below HW.out.b HSS.out
    have hfa : Fit o ts[i] := HF.out _ (List.getElem_mem _)
    obtain ⟨a, ha⟩ : ∃ a, a = ts[i] := ⟨_, rfl⟩
    rw [← ha] at hcell sl hfa
    have HAA := Aside0.mk ha
    have HFA := Aside0.mk hfa
    clear ha hfa
    have hiff : t ∈ ts ↔ cmpL o a t = 0 := by
     constructor
     ·intro hm
      obtain ⟨k, hk, rfl⟩ := List.getElem_of_mem hm
      have h1 : k = i := by
       apply Classical.byContradiction
       intro hne
       by_cases hki : k < i
       ·exact (HA.out k hk hki).irrefl
       ·have h2 := List.pairwise_iff_getElem.1 HU.out i k his hk (by omega)
        have h3 := HU2.out
        have h4 := idx_at (o := o) (ts := ts) (t := ts[k]) (by rw [← h3]; exact his)
        simp only [← h3] at h4
        exact h4 h2
      subst h1
      rw [HAA.out]; exact (cmpL_zero o _ _).2 (fun _ _ => rfl)
     ·intro hc
      have := same_of_order HFA.out hft ((cmpL_zero o a t).1 hc)
      rw [← this, HAA.out]; exact List.getElem_mem _
    have HIF := Aside0.mk hiff
    clear hiff
    by_cases hz : cmpL o a t = 0
    ·have hzb : (cmpL o a t == 0) = true := beq_iff_eq.2 hz
     have HMM := Aside0.mk (HIF.out.2 hz)
     clear hz
     go_wp2_with (go_at_call 106; refine (cmpf_calls _ bx bs Ao co o hcx hcs (HW.out.sl so) Ai ci a sl At ct t (HW.out.sl st)).mono ?_; rintro e w1 ⟨rfl, hb⟩; rw [cmpS_fit HFA.out hft]; have HW1 := Aside0.mk (HW.out.step hb); clear hb)
     go_ret2
     exact ⟨by rw [← HU2.out, decide_eq_true HMM.out]; rfl, HW1.out.b⟩
    ·have hzb : (cmpL o a t == 0) = false := beq_eq_false_iff_ne.2 hz
     have HMM := Aside0.mk (fun h => hz (HIF.out.1 h))
     clear hz
     go_wp2_with (go_at_call 106; refine (cmpf_calls _ bx bs Ao co o hcx hcs (HW.out.sl so) Ai ci a sl At ct t (HW.out.sl st)).mono ?_; rintro e w1 ⟨rfl, hb⟩; rw [cmpS_fit HFA.out hft]; have HW1 := Aside0.mk (HW.out.step hb); clear hb)
     go_ret2
     exact ⟨by rw [← HU2.out, decide_eq_false HMM.out]; rfl, HW1.out.b⟩
   ·have hMM : t ∉ ts := fun hm => by
     obtain ⟨k, hk, rfl⟩ := List.getElem_of_mem hm
     exact (HA.out k hk (by have := HN.out; omega)).irrefl
    have HMM := Aside0.mk hMM
    clear hMM
    go_wp2
    go_ret2
    exact ⟨by rw [← HU2.out, decide_eq_false HMM.out]; rfl, HW.out.b⟩
set_option maxHeartbeats 1000000 in
set_option maxRecDepth 100000 in
theorem find_calls (W : World) (bs : Nat) (Ao : Option Addr) (co : Nat) (o : Tp) (hs : W.cell? ⟨bs, 1, none⟩ = some (.slice Ao o.length co)) (so : Sl W Ao co o)
  (b : Nat) (A : Option Addr) (c : Nat) (ts : List Tp) (h0 : W.cell? ⟨b, 0, none⟩ = some (.slice A ts.length c)) (hT : Kd.C KT W A ts.length ts) (hn : ts.length ≤ 1000000) (hc : ts.length ≤ c) (hfit : ∀ a ∈ ts, Fit o a) (hup : Up o ts) (At : Option Addr) (ct : Nat) (t : Tp) (st : Sl W At ct t) (hft : Fit o t) :
  Calls Tryz.prog 87 #[.pointer (some ⟨bs, 0, none⟩), .pointer (some ⟨b, 0, none⟩), .slice At t.length ct] W fun e w' =>
   e = .returned (.tuple #[.int .i64 (idx o ts t), .bool (decide (t ∈ ts))]) ∧ Below W.heap.size W w' := by
 have hlt := World.block_lt_of_cell? W _ hs
 have hlt0 := World.block_lt_of_cell? W _ h0
 have HS := Aside0.mk hs
 have HT := Aside0.mk hT
 have HF := Aside0.mk hfit
 have HU := Aside0.mk hup
 have SI := Since.alloc (Since.refl W) (.cells #[.pointer (some ⟨bs, 0, none⟩)] 99)
 have h0' := pw_cell_below SI.b h0
 have hs' := pw_cell_below SI.b hs
 clear hs hT hfit hup
 go_enter Tryz.func87, Tryz.ntmps87
 go_wp2_with (go_at_call 105; refine (bsf_calls _ W.heap.size bs Ao co o ((World.cell?_alloc_at _ _ _ _ rfl).trans rfl) hs' (SI.sl so) A c ts (Kd.C_below HT.out SI.b) hn hc HF.out HU.out At ct t (SI.sl st) hft).mono ?_; rintro e w' ⟨rfl, hb⟩)
 go_ret2
 exact ⟨rfl, (SI.step hb).b⟩
end Go.Proofs.YtcmllllbmgcnlaaGreat.Tup
end
section
namespace Go.Proofs.YtcmllllbmgcnlaaGreat.Tup
open Go.RowKit Go.Lib Go.Proofs.YtcmllllbmgcnlaaGreat.G Go.Proofs.YtcmllllbmgcnlaaGreatW.PrintWords Go.Proofs.YtcmllllbmgcnlaaGreatW.PrintLast Go.Proofs.YtcmllllbmgcnlaaGreatW.PrintMore
set_option linter.unusedVariables false
set_option linter.unusedSimpArgs false
theorem setRow_self {w : World} {g : Nat} {cur cs : Array Value} {t : TypeId} {fr : Nat × Nat} (h : w.heap[g]? = some (.cells cur t fr)) : (w.setRow g cs).heap[g]? = some (.cells cs t fr) := by
 have hlt := (Array.getElem?_eq_some_iff.1 h).1
 have hv := (Array.getElem?_eq_some_iff.1 h).2
 simp [World.setRow, Array.getElem?_modify, h]
theorem setRow_grown (w : World) (g : Nat) (cs : Array Value) : w.grownBy (w.setRow g cs) (some g) :=
 ⟨rfl, rfl, rfl, by simp [World.setRow], fun k hk hne => setRow_other w g k cs (fun e => hne (by rw [e]))⟩
section
variable {P : Program} {w : World} {ops : Array Oper} {o : Oper} {a : Act} {Q : Exit → Act → World → Prop}
theorem wpList_copy_at {rest : List Oper} (hgd : o.guard = none) (d s : Operand) (dT sT : TypeId)
  (ho : o.op = .call { callee := .builtin .copy, args := #[d, s], argTypes := #[dT, sT] }) (elem : TypeId) (hu : P.underlying dT = some (.slice elem)) (hsz : (P.info? elem).map (·.size) = some 1)
  (g off dLen dCap : Nat) (ad : Addr) (sLen sCap : Nat) (hd : a.eval d = .slice (some ⟨g, off, none⟩) dLen dCap) (hs : a.eval s = .slice (some ad) sLen sCap)
  (cur : Array Value) (t : TypeId) (hg : w.heap[g]? = some (.cells cur t (0, 0))) (cs : List Value) (hn : cs.length = Nat.min sLen dLen)
  (hsrc : ∀ j v, cs[j]? = some v → w.cell? (ad.add j) = some v) (hfit : off + cs.length ≤ cur.size) (h1 : ∀ v ∈ cs, v.oneCell' = true)
  (h : ∀ w', w'.heap[g]? = some (.cells (cur.toList.take off ++ cs ++ cur.toList.drop (off + cs.length)).toArray t (0, 0)) → w.grownBy w' (some g) → w'.heap.size = w.heap.size → wpList P ops Q rest (a.put o.dst (goInt cs.length)) w') :
  wpList P ops Q (o :: rest) a w := by
 refine wpList_plain hgd fun K hK => ?_
 have hrun := run_copy_row (P := P) w dT sT o.type elem g off dLen dCap ad sLen sCap cur t cs hu hsz hg hn hsrc hfit h1
 unfold Oper.wp
 simp [execOp, ho, resolve, invoke, builtin, hd, hs, hrun, Result.andThen]
 refine hK _ _ ?_
 have := h _ (setRow_self hg) (setRow_grown w g _) (by simp [World.setRow])
 simpa using this
theorem step_copy_at {K : Act → World → Prop} {E : Prop} (hgd : o.guard = none) (d s : Operand) (dT sT : TypeId)
  (ho : o.op = .call { callee := .builtin .copy, args := #[d, s], argTypes := #[dT, sT] }) (elem : TypeId) (hu : P.underlying dT = some (.slice elem)) (hsz : (P.info? elem).map (·.size) = some 1)
  (g off dLen dCap : Nat) (ad : Addr) (sLen sCap : Nat) (hd : a.eval d = .slice (some ⟨g, off, none⟩) dLen dCap) (hs : a.eval s = .slice (some ad) sLen sCap)
  (cur : Array Value) (t : TypeId) (hg : w.heap[g]? = some (.cells cur t (0, 0))) (cs : List Value) (hn : cs.length = Nat.min sLen dLen)
  (hsrc : ∀ j v, cs[j]? = some v → w.cell? (ad.add j) = some v) (hfit : off + cs.length ≤ cur.size) (h1 : ∀ v ∈ cs, v.oneCell' = true)
  (h : ∀ w', w'.heap[g]? = some (.cells (cur.toList.take off ++ cs ++ cur.toList.drop (off + cs.length)).toArray t (0, 0)) → w.grownBy w' (some g) → w'.heap.size = w.heap.size → K (a.put o.dst (goInt cs.length)) w') :
  if Region.wanted o (yielded ops a.tmps) = true then Oper.wp P o a w K Q else E := by
 have hw : Region.wanted o (yielded ops a.tmps) = true := by simp [Region.wanted, hgd]
 rw [if_pos hw]
 have hrun := run_copy_row (P := P) w dT sT o.type elem g off dLen dCap ad sLen sCap cur t cs hu hsz hg hn hsrc hfit h1
 unfold Oper.wp
 simp [execOp, ho, resolve, invoke, builtin, hd, hs, hrun, Result.andThen]
 have := h _ (setRow_self hg) (setRow_grown w g _) (by simp [World.setRow])
 rw [List.append_assoc] at this
 exact this
end
theorem cell_of_heap {w : World} {g : Nat} {cur : Array Value} {t : TypeId} (h : w.heap[g]? = some (.cells cur t (0, 0))) (j : Nat) : w.cell? ⟨g, j, none⟩ = cur[j]? := by
 simp [World.cell?, h]
theorem free_of_heap {w : World} {g : Nat} {cur : Array Value} {t : TypeId} (h : w.heap[g]? = some (.cells cur t (0, 0))) (j : Nat) : w.frozen? ⟨g, j, none⟩ = false := by
 simp [World.frozen?, h]
theorem shape_of_heap {w : World} {g : Nat} {cur : Array Value} {t : TypeId} (h : w.heap[g]? = some (.cells cur t (0, 0))) : w.shape? g = some (t, cur.size) := by
 simp [World.shape?, h]
def insL {α : Type} (xs : List α) (i : Nat) (x : α) : List α := xs.take i ++ x :: xs.drop i
end Go.Proofs.YtcmllllbmgcnlaaGreat.Tup
end
section
namespace Go.Proofs.YtcmllllbmgcnlaaGreat.Tup
open Go.RowKit Go.Proofs.YtcmllllbmgcnlaaGreat.G Go.Proofs.YtcmllllbmgcnlaaGreatW.PrintWords Go.Proofs.YtcmllllbmgcnlaaGreatW.PrintLast Go.Proofs.YtcmllllbmgcnlaaGreatW.PrintMore
set_option linter.unusedVariables false
set_option linter.unusedSimpArgs false
structure SetAt (ok : Nat → Prop) (W : World) (bs : Nat) (A : Option Addr) (c : Nat) (o : Tp) (rt : Nat) (T : BT) : Prop where
 hp : W.heap[bs]? = some (.cells #[.bool true, .slice A o.length c, .pointer (some ⟨rt, 0, none⟩), .int .i64 (T.io.length : Int)] 128 (0, 0))
 so : o.length ≤ c
 F : Kd.F (Kd.int .i64) W ok A o.length o
 nd : NodeF ok W rt T
 wf : T.Ok
 rto : Rt o
 fit : ∀ a ∈ T.io, Fit o a
 up : Up o T.io
 le : T.io.length ≤ 1024
 nok : ¬ ok bs
theorem SetAt.step {ok : Nat → Prop} {W W1 : World} {bs : Nat} {A : Option Addr} {c : Nat} {o : Tp} {rt : Nat} {T : BT} (h : SetAt ok W bs A c o rt T) (hm : ∀ k, ok k → k < W.heap.size → W1.heap[k]? = W.heap[k]?) (hb : W1.heap[bs]? = W.heap[bs]?) : SetAt ok W1 bs A c o rt T :=
 ⟨hb.trans h.hp, h.so, Kd.F_step h.F hm, h.nd.step hm, h.wf, h.rto, h.fit, h.up, h.le, h.nok⟩
theorem SetAt.lt {ok : Nat → Prop} {W : World} {bs : Nat} {A : Option Addr} {c : Nat} {o : Tp} {rt : Nat} {T : BT} (h : SetAt ok W bs A c o rt T) : bs < W.heap.size := (Array.getElem?_eq_some_iff.1 h.hp).1
theorem SetAt.since {ok : Nat → Prop} {W W1 : World} {bs : Nat} {A : Option Addr} {c : Nat} {o : Tp} {rt : Nat} {T : BT} (h : SetAt ok W bs A c o rt T) (hs : Since W W1) : SetAt ok W1 bs A c o rt T :=
 h.step (fun k _ hk => hs.b.block k hk) (hs.b.block _ h.lt)
theorem SetAt.sl {ok : Nat → Prop} {W : World} {bs : Nat} {A : Option Addr} {c : Nat} {o : Tp} {rt : Nat} {T : BT} (h : SetAt ok W bs A c o rt T) : Sl W A c o := ⟨Kd.F_now h.F, h.so⟩
theorem SetAt.c0 {ok : Nat → Prop} {W : World} {bs : Nat} {A : Option Addr} {c : Nat} {o : Tp} {rt : Nat} {T : BT} (h : SetAt ok W bs A c o rt T) : W.cell? ⟨bs, 0, none⟩ = some (.bool true) := (cell_of_heap h.hp 0).trans rfl
theorem SetAt.c1 {ok : Nat → Prop} {W : World} {bs : Nat} {A : Option Addr} {c : Nat} {o : Tp} {rt : Nat} {T : BT} (h : SetAt ok W bs A c o rt T) : W.cell? ⟨bs, 1, none⟩ = some (.slice A o.length c) := (cell_of_heap h.hp 1).trans rfl
theorem SetAt.c2 {ok : Nat → Prop} {W : World} {bs : Nat} {A : Option Addr} {c : Nat} {o : Tp} {rt : Nat} {T : BT} (h : SetAt ok W bs A c o rt T) : W.cell? ⟨bs, 2, none⟩ = some (.pointer (some ⟨rt, 0, none⟩)) := (cell_of_heap h.hp 2).trans rfl
theorem SetAt.c3 {ok : Nat → Prop} {W : World} {bs : Nat} {A : Option Addr} {c : Nat} {o : Tp} {rt : Nat} {T : BT} (h : SetAt ok W bs A c o rt T) : W.cell? ⟨bs, 3, none⟩ = some (.int .i64 (T.io.length : Int)) := (cell_of_heap h.hp 3).trans rfl
set_option maxHeartbeats 1000000 in
set_option maxRecDepth 100000 in
theorem ok_calls (W : World) (bs : Nat) (h : W.cell? ⟨bs, 0, none⟩ = some (.bool true)) :
  Calls Tryz.prog 64 #[.pointer (some ⟨bs, 0, none⟩)] W fun e w' => e = .returned (.bool true) ∧ W = w' := by
 go_enter Tryz.func64, Tryz.ntmps64
 go_wp2
 go_ret
 exact ⟨rfl, rfl⟩
set_option maxHeartbeats 1000000 in
set_option maxRecDepth 100000 in
theorem fits_calls (W : World) (bs : Nat) (Ao : Option Addr) (co : Nat) (o : Tp) (h : W.cell? ⟨bs, 0, none⟩ = some (.bool true)) (h1 : W.cell? ⟨bs, 1, none⟩ = some (.slice Ao o.length co)) (At : Option Addr) (ct : Nat) (t : Tp) :
  Calls Tryz.prog 65 #[.pointer (some ⟨bs, 0, none⟩), .slice At t.length ct] W fun e w' => e = .returned (.bool (decide (t.length = o.length))) ∧ W = w' := by
 go_enter Tryz.func65, Tryz.ntmps65
 go_wp2_with (go_at_call 64; refine (ok_calls _ bs h).mono ?_; rintro e w' ⟨rfl, rfl⟩)
 go_ret
 refine ⟨?_, rfl⟩
 by_cases hl : t.length = o.length
 ·simp [hl]
 ·simp [hl]; omega
theorem io_ts {ts : List Tp} {kids : List BT} (h : (BT.mk ts kids).Ok) : kids.map BT.io = [] ∨ (kids.map BT.io).length = ts.length + 1 := by
 rcases ((BT.ok_mk ts kids).1 h).1 with h | h
 ·left; simp [h]
 ·right; simp [h]
theorem Up.kid {o : Tp} {ts : List Tp} {kids : List BT} (hok : (BT.mk ts kids).Ok) (hu : Up o (BT.mk ts kids).io) (i : Nat) (hi : i < kids.length) : Up o (kids[i]).io ∧ ∀ a ∈ (kids[i]).io, a ∈ (BT.mk ts kids).io := by
 rw [BT.io_mk] at hu ⊢
 rcases ((BT.ok_mk ts kids).1 hok).1 with h | h
 ·simp [h] at hi
 ·have e := weave_at (kids.map BT.io) ts i (by simp [h]) (by omega)
  have eg : (kids.map BT.io)[i]?.getD [] = (kids[i]).io := by simp [hi]
  rw [eg] at e
  rw [e] at hu ⊢
  unfold Up at hu ⊢
  rw [List.pairwise_append, List.pairwise_append] at hu
  exact ⟨hu.2.1.1, fun a ha => by simp [ha]⟩
theorem mem_kid {o t : Tp} {ts : List Tp} {kids : List BT} (hok : (BT.mk ts kids).Ok) (hu : Up o (BT.mk ts kids).io) (hf : ∀ a ∈ (BT.mk ts kids).io, Fit o a) (ht : Fit o t) (hn : t ∉ ts) (hk : kids ≠ []) :
  ∃ h : idx o ts t < kids.length, (t ∈ (BT.mk ts kids).io ↔ t ∈ (kids[idx o ts t]).io) := by
 have hl : kids.length = ts.length + 1 := by
  rcases ((BT.ok_mk ts kids).1 hok).1 with h | h
  ·exact absurd h hk
  ·exact h
 have hi := idx_le o ts t
 refine ⟨by omega, ?_⟩
 rw [BT.io_mk] at hu hf ⊢
 obtain ⟨hA, hB⟩ := around (by simp [hl]) hu hf ht hn
 rw [weave_at (kids.map BT.io) ts (idx o ts t) (by simp [hl]) hi]
 have eg : (kids.map BT.io)[idx o ts t]?.getD [] = (kids[idx o ts t]'(by omega)).io := by
  rw [List.getElem?_map, List.getElem?_eq_getElem (by omega)]; rfl
 rw [eg, List.mem_append, List.mem_append]
 constructor
 ·rintro (h | h | h)
  ·exact absurd (hA t h) Lt.irrefl
  ·exact h
  ·exact absurd (hB t h) Lt.irrefl
 ·intro h; exact .inr (.inl h)
set_option maxHeartbeats 2000000 in
set_option maxRecDepth 100000 in
theorem has_calls {ok : Nat → Prop} (W : World) (bs : Nat) {A : Option Addr} {c : Nat} {o : Tp} {rt : Nat} {T : BT} (h : SetAt ok W bs A c o rt T) (At : Option Addr) (ct : Nat) (t : Tp) (st : Sl W At ct t) :
    Calls Tryz.prog 66 #[.pointer (some ⟨bs, 0, none⟩), .slice At t.length ct] W fun e w' => e = .returned (.bool (decide (t ∈ T.io))) ∧ Below W.heap.size W w' := by
  have h0 := h.c0
  have h1 := h.c1
  have h2 := h.c2
  by_cases hl : t.length = o.length
  · have hft : Fit o t := ⟨hl, h.rto⟩
    have so := h.sl
    have hnd := h.nd
    have hwf := h.wf
    have hfit := h.fit
    have hup := h.up
    have hle := h.le
    have hD := decide_eq_true hl
    have HN := Aside0.mk hnd
    have HW := Aside0.mk hwf
    have HFI := Aside0.mk hfit
    have HU := Aside0.mk hup
    have HL := Aside0.mk hle
    have H1 := Aside0.mk h1
    clear hl h hnd hwf hfit hup hle
    go_enter Tryz.func66, Tryz.ntmps66
    go_wp2_with (go_at_call 65; refine (fits_calls _ bs A c o h0 h1 At ct t).mono ?_; rw [hD]; rintro e w' ⟨rfl, rfl⟩)
    clear h1 h2 hD
    go_loopg [5] (SizeOf.sizeOf T) (fun gk v5 w' => ∃ (b : Nat) (T' : BT), v5 = .pointer (some ⟨b, 0, none⟩) ∧ Aside0 (SizeOf.sizeOf T' ≤ gk) ∧ Aside0 (NodeF ok w' b T') ∧ Aside0 T'.Ok ∧ Aside0 (∀ a ∈ T'.io, Fit o a) ∧ Aside0 (Up o T'.io) ∧ Aside0 (T'.io.length ≤ 1024) ∧ Aside0 (t ∈ T.io ↔ t ∈ T'.io) ∧ Aside0 (Since W w'))
    case atStart => exact ⟨rt, T, rfl, ⟨Nat.le_refl _⟩, HN, HW, HFI, HU, HL, ⟨Iff.rfl⟩, ⟨Since.refl W⟩⟩
    case round =>
      obtain ⟨b, T', rfl, HK, HN', HW', HF', HU', HL', HI', HS⟩ := hrel
      clear HN HW HFI HU HL
      have hnd := HN'.out
      cases hnd with
      | mk b A0 c0' A1 c1' ts kids ps hok hc0 hc1 hle0 hle1 hlp hT hNd hk =>
        have hus := Up.ts (io_ts HW'.out) (by rw [← BT.io_mk]; exact HU'.out)
        have htl : ts.length ≤ 1000000 := by
          have := weave_len (kids.map BT.io) ts (io_ts HW'.out)
          rw [← BT.io_mk] at this
          have := HL'.out
          omega
        have htf : ∀ a ∈ ts, Fit o a := fun a ha => HF'.out a (by rw [BT.io_mk]; exact weave_mem_ts _ _ (io_ts HW'.out) a ha)
        have hcs : wr.cell? ⟨bs, 1, none⟩ = some (.slice A o.length c) := pw_cell_below HS.out.b H1.out
        have HT := Aside0.mk hT
        have HND := Aside0.mk hNd
        have HKI := Aside0.mk hk
        have HLP := Aside0.mk hlp
        have HC0 := Aside0.mk hc0
        have HC1 := Aside0.mk hc1
        have HUS := Aside0.mk hus
        have HTF := Aside0.mk htf
        clear hT hNd hk hlp hus htf hc1
        by_cases hin : t ∈ ts
        · have hin2 := decide_eq_true hin
          have HIN := Aside0.mk hin
          clear hin
          go_wp2_with (go_at_call 87; refine (find_calls _ bs A c o hcs (HS.out.sl so) b A0 c0' ts hc0 (Kd.F_now HT.out) htl hle0 HTF.out HUS.out At ct t (HS.out.sl st) hft).mono ?_; rw [hin2]; rintro e w1 ⟨rfl, hb⟩; have HS1 := Aside0.mk (HS.out.step hb); clear hb)
          go_ret
          refine ⟨?_, HS1.out.b⟩
          rw [decide_eq_true (HI'.out.2 (by rw [BT.io_mk]; exact weave_mem_ts _ _ (io_ts HW'.out) t HIN.out))]; rfl
        · have hin2 := decide_eq_false hin
          have HIN := Aside0.mk hin
          clear hin
          by_cases hkid : kids = []
          · have hp0 : ps.length = 0 := by rw [HLP.out, hkid]; rfl
            have HP0 := Aside0.mk hp0
            have hcc : ∀ w1, Below wr.heap.size wr w1 → w1.cell? ⟨b, 1, none⟩ = some (.slice A1 0 c1') := fun w1 hb => by have := pw_cell_below hb HC1.out; rwa [HP0.out] at this
            have HCC := Aside0.mk hcc
            have HKD := Aside0.mk hkid
            clear hp0 hcc hkid
            go_wp2_with (go_at_call 87; refine (find_calls _ bs A c o hcs (HS.out.sl so) b A0 c0' ts hc0 (Kd.F_now HT.out) htl hle0 HTF.out HUS.out At ct t (HS.out.sl st) hft).mono ?_; rw [hin2]; rintro e w1 ⟨rfl, hb⟩; have HS1 := Aside0.mk (HS.out.step hb); have hc1n := HCC.out _ hb; clear hb)
            go_ret
            refine ⟨?_, HS1.out.b⟩
            have hno : t ∉ T.io := by
              intro hm
              have := HI'.out.1 hm
              rw [BT.io_mk, HKD.out] at this
              exact HIN.out (by simpa [weave] using this)
            rw [decide_eq_false hno]; rfl
          · obtain ⟨hik, hiff⟩ := mem_kid HW'.out HU'.out HF'.out hft HIN.out hkid
            have hne : ¬ ps.length = 0 := by rw [HLP.out]; intro e; exact hkid (List.length_eq_zero_iff.1 e)
            have hne2 : ((ps.length : Int) == 0) = false := beq_eq_false_iff_ne.2 (by omega)
            have hneN : (ps.length == 0) = false := beq_eq_false_iff_ne.2 hne
            obtain ⟨i, hi⟩ : ∃ i, i = idx o ts t := ⟨_, rfl⟩
            have hip : i < ps.length := by rw [HLP.out, hi]; exact hik
            obtain ⟨ad, e1, hcel⟩ := nod_at (Kd.F_now HND.out) i hip
            subst e1
            have HCE := Aside0.mk hcel
            have HII := Aside0.mk hi
            have HIFF := Aside0.mk hiff
            have HIK := Aside0.mk hik
            have hiI : (i : Int) < (ps.length : Int) := by omega
            clear hne hcel hi hiff hkid
            go_wp2_with (go_at_call 87; refine (find_calls _ bs A c o hcs (HS.out.sl so) b A0 c0' ts hc0 (Kd.F_now HT.out) htl hle0 HTF.out HUS.out At ct t (HS.out.sl st) hft).mono ?_; rw [hin2, ← HII.out]; rintro e w1 ⟨rfl, hb⟩; have HS1 := Aside0.mk (HS.out.step hb); have hc1n := pw_cell_below hb HC1.out; have hc2n := pw_cell_below hb HCE.out; have HB := Aside0.mk hb; clear hb)
            obtain ⟨k2, hk2⟩ : ∃ k2, k2 = gk - 1 := ⟨_, rfl⟩
            have hsz : SizeOf.sizeOf (kids[i]'(by rw [HII.out]; exact HIK.out)) < SizeOf.sizeOf (BT.mk ts kids) := by
              have := List.sizeOf_lt_of_mem (List.getElem_mem (l := kids) (n := i) (by rw [HII.out]; exact HIK.out))
              simp only [BT.mk.sizeOf_spec]; omega
            go_roundg k2
            case measure => have := HK.out; omega
            case rel =>
              have hik2 : i < kids.length := by rw [HII.out]; exact HIK.out
              have hu2 := Up.kid HW'.out HU'.out i hik2
              refine ⟨ps[i], kids[i], rfl, ⟨by have := HK.out; omega⟩, ⟨(HKI.out i hik2 hip).under HB.out⟩, ⟨((BT.ok_mk ts kids).1 HW'.out).2 _ (List.getElem_mem _)⟩, ⟨fun a ha => HF'.out a (hu2.2 a ha)⟩, ⟨hu2.1⟩, ⟨?_⟩, ⟨HI'.out.trans ?_⟩, HS1⟩
              · have h1 := HL'.out
                have h2 : (kids[i]).io.length ≤ (BT.mk ts kids).io.length := by
                  rw [BT.io_mk, weave_at (kids.map BT.io) ts i (by have := io_ts HW'.out; rcases this with h | h; · simp at h; simp [h] at hik2
                                                                   · exact h) (by rw [HII.out]; exact idx_le _ _ _)]
                  have eg : (kids.map BT.io)[i]?.getD [] = (kids[i]).io := by simp [hik2]
                  rw [eg]; simp; omega
                omega
              · have := HIFF.out
                simp only [← HII.out] at this
                exact this
  · have hnot : t ∉ T.io := fun hm => hl (h.fit t hm).1
    have HNO := Aside0.mk hnot
    have hD := decide_eq_false hl
    clear h hl hnot
    go_enter Tryz.func66, Tryz.ntmps66
    go_wp2_with (go_at_call 65; refine (fits_calls _ bs A c o h0 h1 At ct t).mono ?_; rw [hD]; rintro e w' ⟨rfl, rfl⟩)
    go_ret
    exact ⟨by rw [decide_eq_false HNO.out]; rfl, Below.refl _ _⟩
end Go.Proofs.YtcmllllbmgcnlaaGreat.Tup
end
section
namespace Go.Proofs.YtcmllllbmgcnlaaGreat.Tup
open Go.RowKit Go.Lib Go.Proofs.YtcmllllbmgcnlaaGreat.G Go.Proofs.YtcmllllbmgcnlaaGreatW.PrintWords Go.Proofs.YtcmllllbmgcnlaaGreatW.PrintLast Go.Proofs.YtcmllllbmgcnlaaGreatW.PrintMore
set_option linter.unusedVariables false
set_option linter.unusedSimpArgs false
theorem clT_info : (Tryz.prog.info? 23).map (fun i => (i.zero, i.size, i.bytes)) = some (some (.slice none 0 0), 1, 24) := by kernel_rfl
set_option maxHeartbeats 2000000 in
set_option maxRecDepth 100000 in
theorem clT_nil (w : World) (c : Nat) : Calls Tryz.prog 90 #[.slice none 0 c] w fun e w' => e = .returned (.slice none 0 0) ∧ w = w' := by
 have q22 : ∀ (w : World) (a : Option Addr) (n c : Nat), (binOp .eql 44 (.slice a n c) (.slice none 0 0)).run Tryz.prog w = .ok (.bool a.isNone) w := fun w a n c => Lib.run_eql_slice_nil w 44 23 a n c 0 0 Tryz.underlying44
 go_enter Tryz.func90, Tryz.ntmps90
 go_wp2
 go_ret
 exact ⟨rfl, rfl⟩
def ClT (w : World) (n : Nat) (xs : List Value) (e : Ending) (w' : World) : Prop :=
 ∃ v', e = .returned v' ∧ w'.ownsRow w.heap.size 23 1 v' n xs ∧ Below w.heap.size w w'
set_option maxHeartbeats 2000000 in
set_option maxRecDepth 100000 in
theorem clT_some (w : World) (ad : Addr) (n c : Nat) (xs : List Value) (hl : xs.length = n) (hcs : ∀ j u, xs[j]? = some u → w.cell? (ad.add j) = some u) (h1 : ∀ u ∈ xs, u.oneCell' = true) (hn : n * 24 ≤ 140737488351232) (hn2 : n ≤ maxLen) :
  Calls Tryz.prog 90 #[.slice (some ad) n c] w (ClT w n xs) := by
 obtain ⟨i0, hi, hz0, hz1, hz2⟩ := info_parts clT_info
 have hcs2 : ∀ o : Obj, ∀ j u, xs[j]? = some u → (w.alloc o).cell? (ad.add j) = some u := fun o j u hj => pw_cell_below (below_alloc (Below.refl _ _) o) (hcs j u hj)
 have HH := Aside0.mk hcs2
 have H1 := Aside0.mk h1
 have HL := Aside0.mk hl
 clear hcs hcs2 h1 hl
 have q22 : ∀ (w : World) (a : Option Addr) (n c : Nat), (binOp .eql 44 (.slice a n c) (.slice none 0 0)).run Tryz.prog w = .ok (.bool a.isNone) w := fun w a n c => Lib.run_eql_slice_nil w 44 23 a n c 0 0 Tryz.underlying44
 go_enter Tryz.func90, Tryz.ntmps90
 go_wp2_with ((with_reducible refine gate_builtin (b := .append) (xs := #[.tmp 5, .tmp 6]) rfl ?_); refine wpList_append_own_at _ rfl _ _ 44 rfl w.heap.size 23 i0 (.slice none 0 0) 1 24 Tryz.underlying44 hi hz0 hz1 hz2 rfl (by decide) (.slice (some ⟨w.heap.size, 0, none⟩) 0 0) 0 [] rfl ⟨rfl, .inr ⟨w.heap.size, 0, #[], rfl, Nat.le_refl _, heap_alloc_new _ _, Nat.le_refl _, Nat.zero_le _, rfl, rfl⟩⟩ ad n c xs rfl (by have := HL.out; omega) (HH.out _) H1.out (by omega) (by omega) (by simp) ?_; intro v' w1 hown1 hg1 _ hat1)
 go_ret
 refine ⟨_, rfl, by simpa using hown1, ?_⟩
 exact (below_alloc (Below.refl _ _) _).grown hg1 (by simp) (fun k hk => by cases hk; exact Nat.le_refl _)
theorem clT_calls (w : World) (A : Option Addr) (n c : Nat) (xs : List Value) (hl : xs.length = n) (hA : A = none → n = 0) (hcs : ∀ ad, A = some ad → ∀ j u, xs[j]? = some u → w.cell? (ad.add j) = some u) (h1 : ∀ u ∈ xs, u.oneCell' = true) (hn : n * 24 ≤ 140737488351232) (hn2 : n ≤ maxLen) :
  Calls Tryz.prog 90 #[.slice A n c] w (ClT w n xs) := by
 cases A with
 | none =>
  obtain rfl := hA rfl
  refine (clT_nil w c).mono ?_
  rintro e w' ⟨rfl, rfl⟩
  exact ⟨_, rfl, ⟨by simpa using hl, .inl ⟨rfl, rfl⟩⟩, Below.refl _ _⟩
 | some ad => exact clT_some w ad n c xs hl (hcs ad rfl) h1 hn hn2
theorem clN_info : (Tryz.prog.info? 126).map (fun i => (i.zero, i.size, i.bytes)) = some (some (.pointer none), 1, 8) := by kernel_rfl
set_option maxHeartbeats 2000000 in
set_option maxRecDepth 100000 in
theorem clN_nil (w : World) (c : Nat) : Calls Tryz.prog 88 #[.slice none 0 c] w fun e w' => e = .returned (.slice none 0 0) ∧ w = w' := by
 have q22 : ∀ (w : World) (a : Option Addr) (n c : Nat), (binOp .eql 130 (.slice a n c) (.slice none 0 0)).run Tryz.prog w = .ok (.bool a.isNone) w := fun w a n c => Lib.run_eql_slice_nil w 130 126 a n c 0 0 Tryz.underlying130
 go_enter Tryz.func88, Tryz.ntmps88
 go_wp2
 go_ret
 exact ⟨rfl, rfl⟩
def ClN (w : World) (n : Nat) (xs : List Value) (e : Ending) (w' : World) : Prop :=
 ∃ v', e = .returned v' ∧ w'.ownsRow w.heap.size 126 1 v' n xs ∧ Below w.heap.size w w'
set_option maxHeartbeats 2000000 in
set_option maxRecDepth 100000 in
theorem clN_some (w : World) (ad : Addr) (n c : Nat) (xs : List Value) (hl : xs.length = n) (hcs : ∀ j u, xs[j]? = some u → w.cell? (ad.add j) = some u) (h1 : ∀ u ∈ xs, u.oneCell' = true) (hn : n * 8 ≤ 140737488351232) (hn2 : n ≤ maxLen) :
  Calls Tryz.prog 88 #[.slice (some ad) n c] w (ClN w n xs) := by
 obtain ⟨i0, hi, hz0, hz1, hz2⟩ := info_parts clN_info
 have hcs2 : ∀ o : Obj, ∀ j u, xs[j]? = some u → (w.alloc o).cell? (ad.add j) = some u := fun o j u hj => pw_cell_below (below_alloc (Below.refl _ _) o) (hcs j u hj)
 have HH := Aside0.mk hcs2
 have H1 := Aside0.mk h1
 have HL := Aside0.mk hl
 clear hcs hcs2 h1 hl
 have q22 : ∀ (w : World) (a : Option Addr) (n c : Nat), (binOp .eql 130 (.slice a n c) (.slice none 0 0)).run Tryz.prog w = .ok (.bool a.isNone) w := fun w a n c => Lib.run_eql_slice_nil w 130 126 a n c 0 0 Tryz.underlying130
 go_enter Tryz.func88, Tryz.ntmps88
 go_wp2_with ((with_reducible refine gate_builtin (b := .append) (xs := #[.tmp 5, .tmp 6]) rfl ?_); refine wpList_append_own_at _ rfl _ _ 130 rfl w.heap.size 126 i0 (.pointer none) 1 8 Tryz.underlying130 hi hz0 hz1 hz2 rfl (by decide) (.slice (some ⟨w.heap.size, 0, none⟩) 0 0) 0 [] rfl ⟨rfl, .inr ⟨w.heap.size, 0, #[], rfl, Nat.le_refl _, heap_alloc_new _ _, Nat.le_refl _, Nat.zero_le _, rfl, rfl⟩⟩ ad n c xs rfl (by have := HL.out; omega) (HH.out _) H1.out (by omega) (by omega) (by simp) ?_; intro v' w1 hown1 hg1 _ hat1)
 go_ret
 refine ⟨_, rfl, by simpa using hown1, ?_⟩
 exact (below_alloc (Below.refl _ _) _).grown hg1 (by simp) (fun k hk => by cases hk; exact Nat.le_refl _)
theorem clN_calls (w : World) (A : Option Addr) (n c : Nat) (xs : List Value) (hl : xs.length = n) (hA : A = none → n = 0) (hcs : ∀ ad, A = some ad → ∀ j u, xs[j]? = some u → w.cell? (ad.add j) = some u) (h1 : ∀ u ∈ xs, u.oneCell' = true) (hn : n * 8 ≤ 140737488351232) (hn2 : n ≤ maxLen) :
  Calls Tryz.prog 88 #[.slice A n c] w (ClN w n xs) := by
 cases A with
 | none =>
  obtain rfl := hA rfl
  refine (clN_nil w c).mono ?_
  rintro e w' ⟨rfl, rfl⟩
  exact ⟨_, rfl, ⟨by simpa using hl, .inl ⟨rfl, rfl⟩⟩, Below.refl _ _⟩
 | some ad => exact clN_some w ad n c xs hl (hcs ad rfl) h1 hn hn2
theorem clI_info : (Tryz.prog.info? 3).map (fun i => (i.zero, i.size, i.bytes)) = some (some (.int .i64 0), 1, 8) := by kernel_rfl
set_option maxHeartbeats 2000000 in
set_option maxRecDepth 100000 in
theorem clI_nil (w : World) (c : Nat) : Calls Tryz.prog 44 #[.slice none 0 c] w fun e w' => e = .returned (.slice none 0 0) ∧ w = w' := by
 have q22 : ∀ (w : World) (a : Option Addr) (n c : Nat), (binOp .eql 23 (.slice a n c) (.slice none 0 0)).run Tryz.prog w = .ok (.bool a.isNone) w := fun w a n c => Lib.run_eql_slice_nil w 23 3 a n c 0 0 Tryz.underlying23
 go_enter Tryz.func44, Tryz.ntmps44
 go_wp2
 go_ret
 exact ⟨rfl, rfl⟩
def ClI (w : World) (n : Nat) (xs : List Value) (e : Ending) (w' : World) : Prop :=
 ∃ v', e = .returned v' ∧ w'.ownsRow w.heap.size 3 1 v' n xs ∧ Below w.heap.size w w'
set_option maxHeartbeats 2000000 in
set_option maxRecDepth 100000 in
theorem clI_some (w : World) (ad : Addr) (n c : Nat) (xs : List Value) (hl : xs.length = n) (hcs : ∀ j u, xs[j]? = some u → w.cell? (ad.add j) = some u) (h1 : ∀ u ∈ xs, u.oneCell' = true) (hn : n * 8 ≤ 140737488351232) (hn2 : n ≤ maxLen) :
  Calls Tryz.prog 44 #[.slice (some ad) n c] w (ClI w n xs) := by
 obtain ⟨i0, hi, hz0, hz1, hz2⟩ := info_parts clI_info
 have hcs2 : ∀ o : Obj, ∀ j u, xs[j]? = some u → (w.alloc o).cell? (ad.add j) = some u := fun o j u hj => pw_cell_below (below_alloc (Below.refl _ _) o) (hcs j u hj)
 have HH := Aside0.mk hcs2
 have H1 := Aside0.mk h1
 have HL := Aside0.mk hl
 clear hcs hcs2 h1 hl
 have q22 : ∀ (w : World) (a : Option Addr) (n c : Nat), (binOp .eql 23 (.slice a n c) (.slice none 0 0)).run Tryz.prog w = .ok (.bool a.isNone) w := fun w a n c => Lib.run_eql_slice_nil w 23 3 a n c 0 0 Tryz.underlying23
 go_enter Tryz.func44, Tryz.ntmps44
 go_wp2_with ((with_reducible refine gate_builtin (b := .append) (xs := #[.tmp 5, .tmp 6]) rfl ?_); refine wpList_append_own_at _ rfl _ _ 23 rfl w.heap.size 3 i0 (.int .i64 0) 1 8 Tryz.underlying23 hi hz0 hz1 hz2 rfl (by decide) (.slice (some ⟨w.heap.size, 0, none⟩) 0 0) 0 [] rfl ⟨rfl, .inr ⟨w.heap.size, 0, #[], rfl, Nat.le_refl _, heap_alloc_new _ _, Nat.le_refl _, Nat.zero_le _, rfl, rfl⟩⟩ ad n c xs rfl (by have := HL.out; omega) (HH.out _) H1.out (by omega) (by omega) (by simp) ?_; intro v' w1 hown1 hg1 _ hat1)
 go_ret
 refine ⟨_, rfl, by simpa using hown1, ?_⟩
 exact (below_alloc (Below.refl _ _) _).grown hg1 (by simp) (fun k hk => by cases hk; exact Nat.le_refl _)
theorem clI_calls (w : World) (A : Option Addr) (n c : Nat) (xs : List Value) (hl : xs.length = n) (hA : A = none → n = 0) (hcs : ∀ ad, A = some ad → ∀ j u, xs[j]? = some u → w.cell? (ad.add j) = some u) (h1 : ∀ u ∈ xs, u.oneCell' = true) (hn : n * 8 ≤ 140737488351232) (hn2 : n ≤ maxLen) :
  Calls Tryz.prog 44 #[.slice A n c] w (ClI w n xs) := by
 cases A with
 | none =>
  obtain rfl := hA rfl
  refine (clI_nil w c).mono ?_
  rintro e w' ⟨rfl, rfl⟩
  exact ⟨_, rfl, ⟨by simpa using hl, .inl ⟨rfl, rfl⟩⟩, Below.refl _ _⟩
 | some ad => exact clI_some w ad n c xs hl (hcs ad rfl) h1 hn hn2
end Go.Proofs.YtcmllllbmgcnlaaGreat.Tup
end
