/- Own texts, joined and cut to what the claim stands on: ChRows, ChRows2, ChPick, ChOrd, ChRefLeast. -/
import Derived.Laws.BitsAllLaws
import Derived.Test.YtcmllllbmgcnlaaGreatQ25
import Derived.Test.YtcmllllbmgcnlaaGreatQ28
import Derived.Test.YtcmllllbmgcnlaaGreatQ27
section
namespace Go.Proofs.YtcmllllbmgcnlaaGreat.Ch
open Go.RowKit Go.Lib Go.Proofs.YtcmllllbmgcnlaaGreat.G Go.Proofs.YtcmllllbmgcnlaaGreat.Tup Go.Proofs.YtcmllllbmgcnlaaGreatW.PrintWords
set_option linter.unusedVariables false
set_option linter.unusedSimpArgs false
theorem i64_and_nat (a b : Nat) (ha : a < 256) (hb : b < 256) : Go.bits .and .i64 (a : Int) (b : Int) = ((a &&& b : Nat) : Int) := by
  have hx : a &&& b < 2 ^ 8 := Nat.and_lt_two_pow _ (by omega)
  show IntKind.i64.wrap ((BitVec.ofInt 64 (a : Int) &&& BitVec.ofInt 64 (b : Int)).toNat : Int) = _
  rw [BitVec.toNat_and, ofInt_u64 a (by omega), ofInt_u64 b (by omega), IntKind.wrap_i64]
  omega
theorem i64_and (a b : Int) (h1 : 0 ≤ a) (h2 : a < 256) (h3 : 0 ≤ b) (h4 : b < 256) : Go.bits .and .i64 a b = ((a.toNat &&& b.toNat : Nat) : Int) := by
  obtain ⟨A, rfl⟩ := Int.eq_ofNat_of_zero_le h1
  obtain ⟨B, rfl⟩ := Int.eq_ofNat_of_zero_le h3
  simpa using i64_and_nat A B (by omega) (by omega)
theorem and_le {a b : Int} (h1 : 0 ≤ a) (h2 : a < 256) (h3 : 0 ≤ b) (h4 : b < 256) (h : Go.bits .and .i64 a b = a) : a ≤ b := by
  rw [i64_and a b h1 h2 h3 h4] at h
  have : a.toNat &&& b.toNat ≤ b.toNat := Nat.and_le_right
  omega
theorem unS_sorted (l : List Int) : (unS l).Pairwise (· < ·) := by
  obtain ⟨d, hd⟩ : ∃ d, d = (l.mergeSort fun x y => decide (x ≤ y)).toArray := ⟨_, rfl⟩
  have hsort : (l.mergeSort fun x y => decide (x ≤ y)).Pairwise (fun a b => decide (a ≤ b) = true) := List.pairwise_mergeSort (fun a b c h1 h2 => by simp at h1 h2 ⊢; omega) (fun a b => by simp; omega) l
  have hs : ∀ i j, i < j → j < d.size → d[i]! ≤ d[j]! := fun i j hij hj => by
    have hjl : j < (l.mergeSort fun x y => decide (x ≤ y)).length := by rw [hd] at hj; simpa using hj
    have := List.pairwise_iff_getElem.1 hsort i j (by omega) hjl hij
    rw [getElem!_pos d i (by omega), getElem!_pos d j hj]
    subst hd
    simpa using this
  unfold unS
  rw [← hd]
  exact (compact_spec hs d.size (Nat.le_refl _)).1.sublist List.filter_sublist
theorem edge_up {u : List Int} (hu : u.Pairwise (· < ·)) (h8 : ∀ x ∈ u, 0 ≤ x ∧ x < 256) {s k : Nat} (hs : s < u.length) (hk : k < u.length) (h : Ed (fun k => u[k]!) s k) : s < k := by
  obtain ⟨hne, he⟩ := h
  simp only [getElem!_pos u k hk, getElem!_pos u s hs] at he
  have h1 := h8 u[s] (List.getElem_mem _)
  have h2 := h8 u[k] (List.getElem_mem _)
  have h3 := and_le h1.1 h1.2 h2.1 h2.2 he
  rcases Nat.lt_trichotomy s k with h | h | h
  · exact h
  · exact absurd h.symm hne
  · have := List.pairwise_iff_getElem.1 hu k s hk hs h
    omega
end Go.Proofs.YtcmllllbmgcnlaaGreat.Ch
end
section
namespace Go.Proofs.YtcmllllbmgcnlaaGreat.Ch
open Go.RowKit Go.Lib Go.Proofs.YtcmllllbmgcnlaaGreat.G Go.Proofs.YtcmllllbmgcnlaaGreat.Tup Go.Proofs.YtcmllllbmgcnlaaGreatW.PrintWords
set_option linter.unusedVariables false
set_option linter.unusedSimpArgs false
def rowFrom (tt : Nat → Int) : Nat → Int → List Nat
  | 0, _ => []
  | f + 1, k => if k < 0 then [] else k.toNat :: rowFrom tt f (tt k.toNat)
theorem rowFrom_neg (tt : Nat → Int) (f : Nat) (k : Int) (h : k < 0) : rowFrom tt f k = [] := by
  cases f with
  | zero => rfl
  | succ f => simp [rowFrom, h]
section
variable {n : Nat} {E : Nat → Nat → Prop} {tt fr : Nat → Int}
theorem rowFrom_fuel (hm : Mt n E (-1) tt fr) (hup : ∀ s k, s < n → k < n → E s k → s < k) : ∀ (f g k : Nat), k < n → n - k ≤ f → n - k ≤ g → rowFrom tt f k = rowFrom tt g k
  | 0, _, k, hk, hf, _ => by omega
  | f + 1, 0, k, hk, _, hg => by omega
  | f + 1, g + 1, k, hk, hf, hg => by
    simp only [rowFrom]
    rw [if_neg (by omega), if_neg (by omega), Int.toNat_natCast]
    congr 1
    rcases hm.rt k hk with e | ⟨q, hq, e⟩
    · rw [rowFrom_neg _ _ _ (by omega), rowFrom_neg _ _ _ (by omega)]
    · have := hup k q hk hq (hm.tf k hk q e).2.1
      rw [e]
      exact rowFrom_fuel hm hup f g q hq (by omega) (by omega)
theorem rowFrom_step (hm : Mt n E (-1) tt fr) (hup : ∀ s k, s < n → k < n → E s k → s < k) (k : Nat) (hk : k < n) : rowFrom tt n k = k :: rowFrom tt n (tt k) := by
  obtain ⟨m, rfl⟩ : ∃ m, n = m + 1 := ⟨n - 1, by omega⟩
  show (if (k : Int) < 0 then [] else (k : Int).toNat :: rowFrom tt m (tt (k : Int).toNat)) = _
  rw [if_neg (by omega), Int.toNat_natCast]
  congr 1
  rcases hm.rt k hk with e | ⟨q, hq, e⟩
  · rw [rowFrom_neg _ _ _ (by omega), rowFrom_neg _ _ _ (by omega)]
  · have := hup k q hk hq (hm.tf k hk q e).2.1
    rw [e]
    exact rowFrom_fuel hm hup m (m + 1) q hq (by omega) (by omega)
theorem in_row (hm : Mt n E (-1) tt fr) (hup : ∀ s k, s < n → k < n → E s k → s < k) : ∀ (j : Nat), j < n → ∃ (i : Nat) (pre : List Nat), i < n ∧ fr i < 0 ∧ rowFrom tt n i = pre ++ rowFrom tt n j := by
  intro j
  induction j using Nat.strongRecOn with
  | _ j ih =>
    intro hj
    rcases hm.rf j hj with e | ⟨s, hs, e⟩
    · exact ⟨j, [], hj, by omega, rfl⟩
    · have hto := hm.ft j hj (by omega) s e
      have hlt := hup s j hs hj (hm.tf s hs j hto).2.1
      obtain ⟨i, pre, hi, hfi, h⟩ := ih s hlt hs
      refine ⟨i, pre ++ [s], hi, hfi, ?_⟩
      rw [h, rowFrom_step hm hup s hs, hto]
      simp
end
end Go.Proofs.YtcmllllbmgcnlaaGreat.Ch
end
section
namespace Go.Proofs.YtcmllllbmgcnlaaGreat.Ch
open Go.RowKit Go.Proofs.YtcmllllbmgcnlaaGreat.G Go.Proofs.YtcmllllbmgcnlaaGreat.Tup Go.Proofs.YtcmllllbmgcnlaaGreatW.PrintWords Go.Proofs.YtcmllllbmgcnlaaGreatW.PrintLast Go.Proofs.YtcmllllbmgcnlaaGreatW.PrintMore
set_option linter.unusedVariables false
set_option linter.unusedSimpArgs false
theorem index_loop (l : List Int) (x : Int) (hn : l.length ≤ 9223372036854775806) : ∀ (rest pre : List Int) (k : Nat), l = pre ++ rest → rest.length < k → x ∉ pre →
    ∃ r, slices_Index_int_int.l0 k l x (l.length : Int) (pre.length : Int) = some r ∧ (0 ≤ r ↔ x ∈ l)
  | [], pre, 0, _, hk, _ => by omega
  | [], pre, k + 1, hp, hk, hx => by
    have e : pre.length = l.length := by rw [hp]; simp
    simp only [slices_Index_int_int.l0]
    rw [if_neg (by omega)]
    refine ⟨-1, rfl, fun h => absurd h (by decide), fun h => ?_⟩
    rw [hp] at h
    simp at h
    exact absurd h hx
  | y :: rest, pre, 0, _, hk, _ => by omega
  | y :: rest, pre, k + 1, hp, hk, hx => by
    have e : l.length = pre.length + rest.length + 1 := by rw [hp]; simp; omega
    have hp' : l = (pre ++ [y]) ++ rest := by rw [hp]; simp
    have ew : wrap64 ((pre.length : Int) + 1) = ((pre ++ [y]).length : Int) := by rw [wrap_nat _ (by omega)]; simp
    have erd : rd l (pre.length : Int) = y := rd_at hp
    simp only [List.length_cons] at hk
    simp only [slices_Index_int_int.l0]
    rw [if_pos (by omega), if_pos (by omega), if_pos (by omega), erd, ew]
    by_cases h : x = y
    · rw [if_pos h]
      exact ⟨_, rfl, fun _ => by rw [hp, h]; simp, fun _ => by omega⟩
    · rw [if_neg h]
      exact index_loop l x hn rest (pre ++ [y]) k hp' (by omega) (by simp [hx, h])
theorem contains_calls (A : Option Addr) (c : Nat) (l : List Int) (x : Int) (w : World) (h : Sl w A c l) (hn : l.length ≤ 4096) :
    Calls Tryz.prog 62 #[.slice A l.length c, .int .i64 x] w fun e w' => e = .returned (.bool (decide (x ∈ l))) ∧ Drawn0 w w' := by
  refine slices_Contains_int_int.calls (l.length + 1) _ _ l _ _ w h.C h.le ?_
  obtain ⟨r, h1, h2⟩ := index_loop l x (by omega) l [] (l.length + 1) rfl (by omega) (by simp)
  unfold slices_Contains_int_int.f slices_Index_int_int.f
  rw [show (([] : List Int).length : Int) = 0 from rfl] at h1
  rw [h1]
  simp only [Option.bind_some]
  congr 1
  by_cases hx : x ∈ l
  · rw [decide_eq_true hx, decide_eq_true (h2.2 hx)]
  · rw [decide_eq_false hx, decide_eq_false fun h => hx (h2.1 h)]
def pickS (s : Int) : Nat → List (List Int) → Int × Bool
  | _, [] => (0, false)
  | i, o :: os => if (coverS o s).2 = true then ((i : Int), true) else pickS s (i + 1) os
theorem len_bound : ∀ os : List (List Int), ∃ B, ∀ o ∈ os, o.length ≤ B
  | [] => ⟨0, fun _ h => by cases h⟩
  | o :: os => by
    obtain ⟨B, h⟩ := len_bound os
    refine ⟨B + o.length, fun p hp => ?_⟩
    rcases List.mem_cons.1 hp with rfl | hp
    · omega
    · have := h p hp; omega
theorem rdL_at' {xs pre rest : List (List Int)} {c : List Int} (h : xs = pre ++ c :: rest) : rd_L1 xs (pre.length : Int) = c := by
  subst h; simp [rd_L1]
theorem pick_loop (s : Int) (os : List (List Int)) (hn : os.length ≤ 9223372036854775806) (B : Nat) (hB : ∀ o ∈ os, o.length ≤ B) : ∀ (rest pre : List (List Int)) (k : Nat), os = pre ++ rest → B + 13 + rest.length < k →
    chain_Pick.l0 k s os (os.length : Int) (pre.length : Int) = some (pickS s pre.length rest)
  | [], pre, 0, _, hk => by omega
  | [], pre, k + 1, hp, hk => by
    have e : pre.length = os.length := by rw [hp]; simp
    simp only [chain_Pick.l0]
    rw [if_neg (by omega)]
    rfl
  | o :: rest, pre, 0, _, hk => by omega
  | o :: rest, pre, k + 1, hp, hk => by
    have e : os.length = pre.length + rest.length + 1 := by rw [hp]; simp; omega
    have hp' : os = (pre ++ [o]) ++ rest := by rw [hp]; simp
    have ew : wrap64 ((pre.length : Int) + 1) = ((pre ++ [o]).length : Int) := by rw [wrap_nat _ (by omega)]; simp
    have ho : o.length ≤ B := hB o (by rw [hp]; simp)
    simp only [List.length_cons] at hk
    simp only [chain_Pick.l0]
    rw [if_pos (by omega), if_pos (by omega), if_pos (by omega), rdL_at' hp, ew, cover_is k o s (by omega)]
    simp only [Option.bind_some, pickS]
    by_cases h : (coverS o s).2 = true
    · rw [if_pos h, if_pos h]
    · rw [if_neg h, if_neg h, pick_loop s os hn B hB rest (pre ++ [o]) k hp' (by omega)]
      simp
end Go.Proofs.YtcmllllbmgcnlaaGreat.Ch
end
section
namespace Go.Proofs.YtcmllllbmgcnlaaGreat.Ch
open Go.RowKit Go.Lib Go.Proofs.YtcmllllbmgcnlaaGreat.G Go.Proofs.YtcmllllbmgcnlaaGreat.Tup Go.Proofs.YtcmllllbmgcnlaaGreatW.PrintWords
set_option linter.unusedVariables false
set_option linter.unusedSimpArgs false
def In (x y : Int) : Prop := Go.bits .and .i64 x y = x
structure ChainsOk (l : List Int) (rows : List (List Int)) : Prop where
  least : LeastIs l rows.length
  all : ∀ x, Un l x → ∃ r ∈ rows, x ∈ r
  of : ∀ r ∈ rows, ∀ x ∈ r, Un l x
  up : ∀ r ∈ rows, r.Pairwise In
  short : ∀ r ∈ rows, r.length ≤ l.length
theorem in_bits {x y : Int} (h1 : 0 ≤ x) (h2 : x < 256) (h3 : 0 ≤ y) (h4 : y < 256) : In x y ↔ ∀ j, x.toNat.testBit j = true → y.toNat.testBit j = true := by
  unfold In
  rw [i64_and x y h1 h2 h3 h4]
  constructor
  · intro h j hj
    have e : x.toNat &&& y.toNat = x.toNat := by omega
    rw [← e, Nat.testBit_and] at hj
    simp at hj
    exact hj.2
  · intro h
    have e : x.toNat &&& y.toNat = x.toNat := by
      apply Nat.eq_of_testBit_eq
      intro j
      rw [Nat.testBit_and]
      cases hj : x.toNat.testBit j with
      | false => rfl
      | true => rw [h j hj]; rfl
    rw [e]; omega
theorem In.trans {x y z : Int} (hx : 0 ≤ x ∧ x < 256) (hy : 0 ≤ y ∧ y < 256) (hz : 0 ≤ z ∧ z < 256) (h : In x y) (k : In y z) : In x z :=
  (in_bits hx.1 hx.2 hz.1 hz.2).2 fun j hj => (in_bits hy.1 hy.2 hz.1 hz.2).1 k j ((in_bits hx.1 hx.2 hy.1 hy.2).1 h j hj)
section
variable {n : Nat} {u : List Int} {tt fr : Nat → Int}
def chHeads (n : Nat) (tt : Nat → Int) : List Nat := (List.range n).filter fun i => !decide ((i : Int) ∈ (List.range n).map tt)
def chRow (u : List Int) (n : Nat) (tt : Nat → Int) (k : Int) : List Int := (rowFrom tt n k).map fun k => u[k]!
def chRows (u : List Int) (n : Nat) (tt : Nat → Int) : List (List Int) := (chHeads n tt).map fun i : Nat => chRow u n tt i
theorem head_free (hm : Mt n (Ed fun k => u[k]!) (-1) tt fr) (i : Nat) (hi : i < n) : (i : Int) ∈ (List.range n).map tt ↔ 0 ≤ fr i := by
  rw [List.mem_map]
  constructor
  · rintro ⟨s, hs, e⟩
    have := hm.tf s (List.mem_range.1 hs) i e
    omega
  · intro h
    obtain ⟨s, hs, e⟩ := (hm.rf i hi).pos h
    exact ⟨s, List.mem_range.2 hs, hm.ft i hi (by omega) s e⟩
theorem heads_eq (hm : Mt n (Ed fun k => u[k]!) (-1) tt fr) : chHeads n tt = (List.range n).filter fun k => decide (fr k < 0) := by
  unfold chHeads
  refine List.filter_congr fun i hi => ?_
  have := head_free hm i (List.mem_range.1 hi)
  by_cases h : 0 ≤ fr i
  · rw [decide_eq_true (this.2 h), decide_eq_false (by omega)]; rfl
  · rw [decide_eq_false fun hc => h (this.1 hc), decide_eq_true (by omega)]; rfl
theorem rowFrom_lt (hm : Mt n (Ed fun k => u[k]!) (-1) tt fr) : ∀ (f : Nat) (k : Int), Pl n k → ∀ j ∈ rowFrom tt f k, j < n
  | 0, _, _, j, h => by simp [rowFrom] at h
  | f + 1, k, hk, j, h => by
    unfold rowFrom at h
    by_cases h0 : k < 0
    · rw [if_pos h0] at h; simp at h
    · rw [if_neg h0] at h
      obtain ⟨q, hq, rfl⟩ := hk.pos (by omega)
      rcases List.mem_cons.1 h with rfl | h
      · simpa using hq
      · exact rowFrom_lt hm f _ (hm.rt _ (by simpa using hq)) j h
theorem rowFrom_up (hu : n = u.length) (h8 : ∀ x ∈ u, 0 ≤ x ∧ x < 256) (hm : Mt n (Ed fun k => u[k]!) (-1) tt fr) : ∀ (f : Nat) (k : Int), Pl n k → (rowFrom tt f k).Pairwise (fun a b => In u[a]! u[b]!) ∧ ∀ q : Nat, k = q → ∀ j ∈ rowFrom tt f k, j = q ∨ In u[q]! u[j]!
  | 0, _, _ => by simp [rowFrom]
  | f + 1, k, hk => by
    unfold rowFrom
    by_cases h0 : k < 0
    · rw [if_pos h0]; simp
    · rw [if_neg h0]
      obtain ⟨q, hq, rfl⟩ := hk.pos (by omega)
      rw [Int.toNat_natCast]
      have hb : ∀ j, j < n → 0 ≤ u[j]! ∧ u[j]! < 256 := fun j hj => by
        rw [getElem!_pos u j (by omega)]; exact h8 _ (List.getElem_mem _)
      obtain ⟨ih1, ih2⟩ := rowFrom_up hu h8 hm f (tt q) (hm.rt q hq)
      have hin : ∀ j ∈ rowFrom tt f (tt q), In u[q]! u[j]! := fun j hj => by
        rcases hm.rt q hq with e | ⟨p, hp, e⟩
        · rw [rowFrom_neg _ _ _ (by omega)] at hj; simp at hj
        · have hE := (hm.tf q hq p e).2.1.2
          rcases ih2 p e j hj with rfl | h
          · exact hE
          · exact In.trans (hb q hq) (hb p hp) (hb j (rowFrom_lt hm f _ (hm.rt q hq) j hj)) hE h
      refine ⟨List.pairwise_cons.2 ⟨hin, ih1⟩, fun q' e j hj => ?_⟩
      have : q' = q := by omega
      subst this
      rcases List.mem_cons.1 hj with rfl | hj
      · exact .inl rfl
      · exact .inr (hin j hj)
theorem rowFrom_len (tt : Nat → Int) : ∀ (f : Nat) (k : Int), (rowFrom tt f k).length ≤ f
  | 0, _ => Nat.le_refl _
  | f + 1, k => by
    unfold rowFrom
    by_cases h : k < 0
    · rw [if_pos h]; simp
    · rw [if_neg h]
      have := rowFrom_len tt f (tt k.toNat)
      simp only [List.length_cons]; omega
theorem chRow_len (u : List Int) (n : Nat) (tt : Nat → Int) (k : Int) : (chRow u n tt k).length ≤ n := by
  unfold chRow
  rw [List.length_map]; exact rowFrom_len tt n k
theorem chains_ok {l : List Int} (h8 : ∀ x ∈ l, 0 ≤ x ∧ x < 256) (hu : u = unS l) (hn : n = u.length) (h : NextO n (Ed fun k => u[k]!) tt fr n) :
    ChainsOk l (if (chRows u n tt).length = 0 then [[]] else chRows u n tt) := by
  have hs := unS_spec l
  have hsort := unS_sorted l
  rw [← hu] at hs hsort
  have hu8 : ∀ x ∈ u, 0 ≤ x ∧ x < 256 := fun x hx => h8 x ((hs.2.1 x).1 hx).1
  have hm := h.1
  have hup : ∀ s k, s < n → k < n → Ed (fun k => u[k]!) s k → s < k := fun s k hs hk he => edge_up hsort hu8 (by omega) (by omega) he
  obtain ⟨F, D, hf⟩ := nextO_fin h
  have hlen : (chRows u n tt).length = F.length := by
    have := hf.free_length
    unfold chRows
    rw [List.length_map, heads_eq hm]; exact this
  have hL : LeastIs l (max F.length 1) := by
    subst hn
    have := least_of hs.1 hs.2.1 hf.most
    have hd := hf.dom_length
    have e : u.length - (u.length - F.length) = F.length := by omega
    rw [e] at this; exact this
  have hall : ∀ x, Un l x → ∃ r ∈ chRows u n tt, x ∈ r := fun x hx => by
    obtain ⟨j, hj, rfl⟩ := List.getElem_of_mem ((hs.2.1 x).2 hx)
    obtain ⟨i, pre, hi, hfi, e⟩ := in_row hm hup j (by omega)
    refine ⟨_, List.mem_map.2 ⟨i, ?_, rfl⟩, ?_⟩
    · rw [heads_eq hm, List.mem_filter, List.mem_range]; exact ⟨hi, by simpa using hfi⟩
    · unfold chRow
      rw [e, rowFrom_step hm hup j (by omega)]
      rw [List.map_append, List.map_cons, getElem!_pos u j hj]
      simp
  have hof : ∀ r ∈ chRows u n tt, ∀ x ∈ r, Un l x := fun r hr x hx => by
    obtain ⟨i, hi, rfl⟩ := List.mem_map.1 hr
    obtain ⟨k, hk, rfl⟩ := List.mem_map.1 hx
    have hin : i < n := by have := (List.mem_filter.1 hi).1; simpa using this
    have := rowFrom_lt hm n i (.inr ⟨i, hin, rfl⟩) k hk
    rw [getElem!_pos u k (by omega)]
    exact (hs.2.1 _).1 (List.getElem_mem _)
  have hupw : ∀ r ∈ chRows u n tt, r.Pairwise In := fun r hr => by
    obtain ⟨i, hi, rfl⟩ := List.mem_map.1 hr
    have hin : i < n := by have := (List.mem_filter.1 hi).1; simpa using this
    unfold chRow
    rw [List.pairwise_map]
    exact (rowFrom_up hn hu8 hm n i (.inr ⟨i, hin, rfl⟩)).1
  have hsh : ∀ r ∈ chRows u n tt, r.length ≤ l.length := fun r hr => by
    obtain ⟨i, hi, rfl⟩ := List.mem_map.1 hr
    have := chRow_len u n tt i
    have := hs.2.2
    omega
  by_cases h0 : (chRows u n tt).length = 0
  · rw [if_pos h0]
    have e : chRows u n tt = [] := List.length_eq_zero_iff.1 h0
    rw [hlen] at h0
    rw [e] at hall
    refine ⟨by rw [h0] at hL; exact hL, fun x hx => ?_, fun r hr x hx => ?_, fun r hr => ?_, fun r hr => by rw [List.mem_singleton] at hr; subst hr; simp⟩
    · obtain ⟨r, hr, _⟩ := hall x hx; simp at hr
    · rw [List.mem_singleton] at hr; subst hr; simp at hx
    · rw [List.mem_singleton] at hr; subst hr; simp
  · rw [if_neg h0]
    refine ⟨?_, hall, hof, hupw, hsh⟩
    rw [hlen] at h0 ⊢
    rwa [show max F.length 1 = F.length by omega] at hL
end
def addC (s : Int) (o : List Int) : Nat → List Int
  | 0 => o
  | c + 1 => if Go.bits .and .i64 (shr .i64 s (c : Int)) 1 = 1 ∧ (c : Int) ∉ addC s o c then addC s o c ++ [(c : Int)] else addC s o c
def ordF (w : Nat) (o : List Int) (row : List Int) : List Int := row.foldl (fun o s => addC s o w) o
def ordOf (w : Nat) (row : List Int) : List Int := ordF w [] (row ++ [2 ^ w - 1])
structure Has (w m : Nat) (o : List Int) : Prop where
  nodup : o.Nodup
  mem : ∀ x, x ∈ o ↔ 0 ≤ x ∧ x < (w : Int) ∧ m.testBit x.toNat = true
theorem addC_spec {w m m0 : Nat} {o : List Int} (hw : w ≤ 8) (hm : m < 256) (h : Has w m0 o) (hs : ∀ j, m0.testBit j = true → m.testBit j = true) : ∀ c, c ≤ w →
    (addC (m : Int) o c).Nodup ∧ (∃ q, addC (m : Int) o c = o ++ q) ∧ ∀ x, x ∈ addC (m : Int) o c ↔ x ∈ o ∨ (0 ≤ x ∧ x < (c : Int) ∧ m.testBit x.toNat = true)
  | 0, _ => ⟨h.nodup, ⟨[], by simp [addC]⟩, fun x => by simp only [addC]; constructor; exact .inl; rintro (h | h); exact h; omega⟩
  | c + 1, hc => by
    obtain ⟨h1, ⟨q, h2⟩, h3⟩ := addC_spec hw hm h hs c (by omega)
    unfold addC
    have hbt := bit_test m hm c (by omega)
    by_cases hx : m.testBit c = true ∧ (c : Int) ∉ addC (m : Int) o c
    · rw [if_pos ⟨hbt.2 hx.1, hx.2⟩]
      refine ⟨?_, ⟨q ++ [(c : Int)], by rw [h2, List.append_assoc]⟩, fun x => ?_⟩
      · rw [List.nodup_append]
        exact ⟨h1, by simp, fun a ha b hb e => by rw [List.mem_singleton] at hb; subst hb; subst e; exact hx.2 ha⟩
      · rw [List.mem_append, h3, List.mem_singleton]
        constructor
        · rintro ((h | ⟨h4, h5, h6⟩) | rfl)
          · exact .inl h
          · exact .inr ⟨h4, by omega, h6⟩
          · exact .inr ⟨by omega, by omega, by simpa using hx.1⟩
        · rintro (h | ⟨h4, h5, h6⟩)
          · exact .inl (.inl h)
          · by_cases e : x = (c : Int)
            · exact .inr e
            · exact .inl (.inr ⟨h4, by omega, h6⟩)
    · rw [if_neg fun hc' => hx ⟨hbt.1 hc'.1, hc'.2⟩]
      refine ⟨h1, ⟨q, h2⟩, fun x => ?_⟩
      rw [h3]
      constructor
      · rintro (h | ⟨h4, h5, h6⟩)
        · exact .inl h
        · exact .inr ⟨h4, by omega, h6⟩
      · rintro (h | ⟨h4, h5, h6⟩)
        · exact .inl h
        · by_cases e : x = (c : Int)
          · subst e
            have hn : (c : Int) ∈ addC (m : Int) o c := Classical.byContradiction fun hc' => hx ⟨by simpa using h6, hc'⟩
            exact (h3 _).1 hn
          · exact .inr ⟨h4, by omega, h6⟩
theorem addC_has {w m m0 : Nat} {o : List Int} (hw : w ≤ 8) (hm : m < 256) (h : Has w m0 o) (hs : ∀ j, m0.testBit j = true → m.testBit j = true) : Has w m (addC (m : Int) o w) ∧ ∃ q, addC (m : Int) o w = o ++ q := by
  obtain ⟨h1, h2, h3⟩ := addC_spec hw hm h hs w (Nat.le_refl _)
  refine ⟨⟨h1, fun x => ?_⟩, h2⟩
  rw [h3]
  constructor
  · rintro (h4 | h4)
    · obtain ⟨a, b, c⟩ := (h.mem x).1 h4
      exact ⟨a, b, hs _ c⟩
    · exact h4
  · exact .inr
theorem ordF_row {w : Nat} (hw : w ≤ 8) : ∀ (row : List Int) (m0 : Nat) (o : List Int), m0 < 256 → (∀ x ∈ row, 0 ≤ x ∧ x < 256) → ((m0 : Int) :: row).Pairwise In → Has w m0 o →
    (∃ q, ordF w o row = o ++ q) ∧ (∀ s ∈ row, ∃ p q, ordF w o row = p ++ q ∧ Has w s.toNat p) ∧ ∃ m : Nat, m < 256 ∧ Has w m (ordF w o row) ∧ ((m : Int) = m0 ∨ (m : Int) ∈ row)
  | [], m0, o, h0, _, _, h => ⟨⟨[], by simp [ordF]⟩, by simp, m0, h0, h, .inl rfl⟩
  | s :: row, m0, o, h0, h8, hp, h => by
    have hs8 := h8 s (by simp)
    obtain ⟨hp1, hp2⟩ := List.pairwise_cons.1 hp
    have hin := hp1 s (by simp)
    obtain ⟨m, rfl⟩ := Int.eq_ofNat_of_zero_le hs8.1
    have hsub := (in_bits (Int.natCast_nonneg m0) (by omega) hs8.1 hs8.2).1 hin
    simp only [Int.toNat_natCast] at hsub
    obtain ⟨a1, q0, a2⟩ := addC_has hw (by omega) h hsub
    obtain ⟨⟨q, b1⟩, b2, m', b3, b4, b5⟩ := ordF_row hw row m (addC (m : Int) o w) (by omega) (fun x hx => h8 x (by simp [hx])) hp2 a1
    have e : ordF w o ((m : Int) :: row) = ordF w (addC (m : Int) o w) row := rfl
    refine ⟨⟨q0 ++ q, by rw [e, b1, a2, List.append_assoc]⟩, fun s hs => ?_, m', b3, by rw [e]; exact b4, .inr ?_⟩
    · rcases List.mem_cons.1 hs with rfl | hs
      · exact ⟨_, q, by rw [e]; exact b1, by simpa using a1⟩
      · rw [e]; exact b2 s hs
    · rcases b5 with h | h
      · rw [h]; simp
      · simp [h]
theorem orL_bits : ∀ (o : List Int) (m j : Nat), (∀ c ∈ o, 0 ≤ c) → ((orL o m).testBit j = true ↔ m.testBit j = true ∨ (j : Int) ∈ o)
  | [], m, j, _ => by simp [orL]
  | c :: o, m, j, h => by
    rw [orL, orL_bits o _ j (fun x hx => h x (by simp [hx])), test_set, List.mem_cons]
    have := h c (by simp)
    constructor
    · rintro ((h | h) | h)
      · exact .inl h
      · exact .inr (.inl (by omega))
      · exact .inr (.inr h)
    · rintro (h | h | h)
      · exact .inl (.inl h)
      · exact .inl (.inr (by omega))
      · exact .inr h
theorem testBit_lt {m w j : Nat} (hm : m < 2 ^ w) (h : m.testBit j = true) : j < w := by
  refine Classical.byContradiction fun hc => ?_
  have : m < 2 ^ j := Nat.lt_of_lt_of_le hm (Nat.pow_le_pow_right (by decide) (by omega))
  rw [Nat.testBit_lt_two_pow this] at h
  cases h
theorem has_orL {w m : Nat} {p : List Int} (hw : w ≤ 8) (hm : m < 2 ^ w) (h : Has w m p) : orL p 0 = m ∧ popN m = p.length := by
  have h256 : m < 256 := Nat.lt_of_lt_of_le hm (Nat.pow_le_pow_right (n := 2) (i := w) (j := 8) (by decide) hw)
  have h0 : ∀ c ∈ p, 0 ≤ c := fun c hc => ((h.mem c).1 hc).1
  have e : orL p 0 = m := by
    apply Nat.eq_of_testBit_eq
    intro j
    have := orL_bits p 0 j h0
    cases hj : m.testBit j with
    | true => rw [this, h.mem]; exact .inr ⟨by omega, by have := testBit_lt hm hj; omega, by simpa using hj⟩
    | false =>
      cases hq : (orL p 0).testBit j with
      | false => rfl
      | true =>
        rcases this.1 hq with h1 | h1
        · simp at h1
        · have := ((h.mem _).1 h1).2.2
          simp [hj] at this
  refine ⟨e, ?_⟩
  have := pop_orL p (fun c hc => by obtain ⟨a, b, _⟩ := (h.mem c).1 hc; omega) h.nodup 0 (by decide) (fun c _ => by simp)
  rw [e] at this
  rw [this]
  have : popN 0 = 0 := by decide
  omega
theorem has_zero (w : Nat) : Has w 0 [] := ⟨List.nodup_nil, fun x => by simp⟩
theorem has_full {w : Nat} {o : List Int} (hw : w ≤ 8) (h : Has w (2 ^ w - 1) o) : o.length = w ∧ Rt o := by
  have hb : ∀ j, (2 ^ w - 1).testBit j = decide (j < w) := fun j => Nat.testBit_two_pow_sub_one w j
  have hmem : ∀ x, x ∈ o ↔ 0 ≤ x ∧ x < (w : Int) := fun x => by
    rw [h.mem, hb]
    constructor
    · rintro ⟨a, b, _⟩; exact ⟨a, b⟩
    · rintro ⟨a, b⟩; exact ⟨a, b, by simp; omega⟩
  have e : o.length = w := by
    have := eq_of_nodup h.nodup (upto_nodup w) fun x => (hmem x).trans mem_upto.symm
    rw [this, upto_len]
  exact ⟨e, by omega, fun c hc => by rw [e]; exact (hmem c).1 hc, h.nodup⟩
theorem ordOf_spec {w : Nat} (hw : w ≤ 8) {row : List Int} (h8 : ∀ x ∈ row, 0 ≤ x ∧ x < 2 ^ w) (hp : row.Pairwise In) :
    (ordOf w row).length = w ∧ Rt (ordOf w row) ∧ ∀ s, s = 0 ∨ s ∈ row → (coverS (ordOf w row) s).2 = true := by
  have hpw : (2 : Int) ^ w ≤ 256 := pow_le_8 w hw
  have hpp : (0 : Int) < 2 ^ w := Int.pow_pos (by decide)
  have hcast : ((2 ^ w - 1 : Nat) : Int) = 2 ^ w - 1 := by
    have h1 : 1 ≤ (2 : Nat) ^ w := Nat.one_le_two_pow
    have h2 : ((2 ^ w : Nat) : Int) = (2 : Int) ^ w := by simp
    omega
  have hN : ∀ s : Int, 0 ≤ s → s < 2 ^ w → s.toNat < 2 ^ w := fun s h1 h2 => by
    have h3 : ((2 ^ w : Nat) : Int) = (2 : Int) ^ w := by simp
    omega
  have h82 : ∀ x ∈ row ++ [(2 : Int) ^ w - 1], 0 ≤ x ∧ x < 256 := fun x hx => by
    rcases List.mem_append.1 hx with hx | hx
    · have := h8 x hx; omega
    · rw [List.mem_singleton] at hx; omega
  have hp2 : (((0 : Nat) : Int) :: (row ++ [(2 : Int) ^ w - 1])).Pairwise In := by
    rw [List.pairwise_cons, List.pairwise_append]
    refine ⟨fun x hx => ?_, hp, by simp, fun a ha b hb => ?_⟩
    · have := h82 x hx
      exact (in_bits (by omega) (by omega) this.1 this.2).2 fun j hj => by simp at hj
    · rw [List.mem_singleton] at hb
      have h1 := h8 a ha
      have h2 := h82 b (by simp [hb])
      refine (in_bits h1.1 (by omega) h2.1 h2.2).2 fun j hj => ?_
      have h3 : b.toNat = 2 ^ w - 1 := by omega
      rw [h3, Nat.testBit_two_pow_sub_one]
      simpa using testBit_lt (hN a h1.1 h1.2) hj
  obtain ⟨_, h1, _⟩ := ordF_row hw (row ++ [(2 : Int) ^ w - 1]) 0 [] (by decide) h82 hp2 (has_zero w)
  have hfull : Has w (2 ^ w - 1) (ordOf w row) := by
    have : ordF w [] (row ++ [(2 : Int) ^ w - 1]) = addC (2 ^ w - 1) (ordF w [] row) w := by simp [ordF]
    have hp3 : (((0 : Nat) : Int) :: row).Pairwise In := by
      rw [← List.cons_append] at hp2
      exact (List.pairwise_append.1 hp2).1
    obtain ⟨_, _, m, hm, hH, hmr⟩ := ordF_row hw row 0 [] (by decide) (fun x hx => h82 x (by simp [hx])) hp3 (has_zero w)
    have hmlt : m < 2 ^ w := by
      rcases hmr with h | h
      · have : m = 0 := by omega
        subst this; exact Nat.pow_pos (by decide)
      · have := h8 _ h
        have := hN m this.1 this.2
        simpa using this
    have h3 := (addC_has (m := 2 ^ w - 1) hw (by have : (2 : Nat) ^ w ≤ 256 := Nat.pow_le_pow_right (n := 2) (i := w) (j := 8) (by decide) hw; omega) hH (fun j hj => by
      rw [Nat.testBit_two_pow_sub_one]; simpa using testBit_lt hmlt hj)).1
    rw [hcast] at h3
    unfold ordOf
    rw [this]; exact h3
  obtain ⟨f1, f2⟩ := has_full hw hfull
  refine ⟨f1, f2, fun s hs => ?_⟩
  have hpre : ∃ p q, ordOf w row = p ++ q ∧ Has w s.toNat p ∧ 0 ≤ s ∧ s < 2 ^ w := by
    rcases hs with rfl | hs
    · exact ⟨[], _, rfl, has_zero w, Int.le_refl _, hpp⟩
    · obtain ⟨p, q, e, hH⟩ := h1 s (List.mem_append_left _ hs)
      exact ⟨p, q, e, hH, h8 s hs⟩
  obtain ⟨p, q, e, hH, h0, hlt⟩ := hpre
  obtain ⟨a, b⟩ := has_orL hw (hN s h0 hlt) hH
  unfold coverS
  rw [if_pos ⟨f2, h0, by rw [f1]; exact hlt⟩, e, b]
  have : List.take p.length (p ++ q) = p := by simp
  rw [this, a, if_pos rfl]
theorem pickS_some {s : Int} : ∀ (os : List (List Int)) (i : Nat), (∃ o ∈ os, (coverS o s).2 = true) → (pickS s i os).2 = true
  | [], _, h => by obtain ⟨o, h, _⟩ := h; simp at h
  | o :: os, i, h => by
    unfold pickS
    by_cases hc : (coverS o s).2 = true
    · rw [if_pos hc]
    · rw [if_neg hc]
      refine pickS_some os (i + 1) ?_
      obtain ⟨p, hp, h⟩ := h
      rcases List.mem_cons.1 hp with rfl | hp
      · exact absurd h hc
      · exact ⟨p, hp, h⟩
theorem orders_serve {w : Nat} (hw : w ≤ 8) {l : List Int} {rows : List (List Int)} (h8 : ∀ x ∈ l, 0 ≤ x ∧ x < 2 ^ w) (h : ChainsOk l rows) :
    LeastIs l (rows.map (ordOf w)).length ∧ (∀ o ∈ rows.map (ordOf w), o.length = w ∧ Rt o) ∧ ∀ s ∈ l, (pickS s 0 (rows.map (ordOf w))).2 = true := by
  have hr : ∀ r ∈ rows, ∀ x ∈ r, 0 ≤ x ∧ x < 2 ^ w := fun r hr x hx => h8 x (h.of r hr x hx).1
  refine ⟨by rw [List.length_map]; exact h.least, fun o ho => ?_, fun s hs => pickS_some _ _ ?_⟩
  · obtain ⟨r, hr', rfl⟩ := List.mem_map.1 ho
    have := ordOf_spec hw (hr r hr') (h.up r hr')
    exact ⟨this.1, this.2.1⟩
  · by_cases h0 : s = 0
    · have hne : rows ≠ [] := fun e => by
        subst e
        obtain ⟨_, _, _, _, _, h1⟩ := h.least
        simp at h1; omega
      obtain ⟨r, hr'⟩ := List.exists_mem_of_ne_nil _ hne
      exact ⟨_, List.mem_map.2 ⟨r, hr', rfl⟩, (ordOf_spec hw (hr r hr') (h.up r hr')).2.2 s (.inl h0)⟩
    · obtain ⟨r, hr', hx⟩ := h.all s ⟨hs, h0⟩
      exact ⟨_, List.mem_map.2 ⟨r, hr', rfl⟩, (ordOf_spec hw (hr r hr') (h.up r hr')).2.2 s (.inr hx)⟩
end Go.Proofs.YtcmllllbmgcnlaaGreat.Ch
end
section
namespace Go.Proofs.YtcmllllbmgcnlaaGreat.Ch
open Go.RowKit Go.Deep Go.Proofs.YtcmllllbmgcnlaaGreat.G Go.Proofs.YtcmllllbmgcnlaaGreat.Tup Go.Proofs.YtcmllllbmgcnlaaGreatW.PrintWords Go.Proofs.YtcmllllbmgcnlaaGreatW.PrintLast Go.Proofs.YtcmllllbmgcnlaaGreatW.PrintMore
set_option linter.unusedVariables false
set_option linter.unusedSimpArgs false
theorem info4 : (Tryz.prog.info? 4).map (fun i => (i.zero, i.size, i.bytes)) = some (some (.bool false), 1, 1) := by kernel_rfl
theorem r_cells {w : World} {base : Nat} {ok : Nat → Prop} {v : Value} {r : List Int} (h : Kd.R (Kd.int .i64) 3 w base ok v r) :
    ∃ A c ba, v = .slice A r.length c ∧ r.length ≤ c ∧ ba < w.heap.size + 1 ∧ (0 < r.length → ba < w.heap.size) ∧ ∀ k, k < r.length → A = some ⟨ba, 0, none⟩ ∧ w.cell? ⟨ba, 0 + k, none⟩ = some (.int .i64 r[k]!) := by
  obtain ⟨A, c, rfl, hs⟩ := R_sl h
  by_cases hp : 0 < r.length
  · obtain ⟨g, cap, e, hb, hl, _⟩ := Kd.R_form h hp
    injection e with e1 e2 e3
    subst e1
    refine ⟨_, c, g, rfl, hs.le, by omega, fun _ => hl, fun k hk => ⟨rfl, ?_⟩⟩
    obtain ⟨ad, e, hc⟩ := sl_cells hs k hk
    injection e with e
    subst e
    rw [getElem!_pos r k hk]
    by_cases e0 : k = 0
    · subst e0; simpa [Addr.add] using hc
    · simpa [Addr.add, e0] using hc
  · exact ⟨A, c, w.heap.size, rfl, hs.le, by omega, fun h => absurd h hp, fun k hk => absurd hk (by omega)⟩
def stf (A : Option Addr) (n c bp : Nat) (v2 : Value) : Nat → Value := fun j => if j = 0 then .slice A n c else if j = 1 then .slice (some ⟨bp, 0, none⟩) n n else v2
structure LW (n : Nat) (A : Option Addr) (c ba N : Nat) (lv : Nat → Int) (w1 : World) (wr : World) (pr : Nat → Int) : Prop where
  below : Below N w1 wr
  sz : w1.heap.size = N
  rb : ∃ v2, wr.rowIs (N + 1) 162 3 (stf A n c N v2)
  rp : wr.rowIs N 3 n (fun k => .int .i64 (pr k))
  la : ∀ k, k < n → A = some ⟨ba, 0, none⟩ ∧ w1.cell? ⟨ba, 0 + k, none⟩ = some (.int .i64 (lv k))
  lb : 0 < n → ba < N
theorem below_two {N bs : Nat} {w1 wr w2 : World} (h : Below N w1 wr) (hb : N ≤ bs) (t : Two2 N bs wr w2) : Below N w1 w2 :=
  ⟨t.os.trans h.os, t.tape.trans h.tape, t.output.trans h.output, by rw [t.size]; exact h.size, fun k hk => (t.block k (by omega) (by omega)).trans (h.block k hk)⟩
section
variable {n : Nat} {A : Option Addr} {c ba N : Nat} {lv : Nat → Int} {w1 wr w2 : World} {pr pr' : Nat → Int} {sn' : Nat → Bool}
theorem LW.see (h : LW n A c ba N lv w1 wr pr) : MW n A c ba 0 (N + 1) N wr.heap.size lv ((wr.alloc (.cells (madeCells #[.bool false] n) 4)).setCell ⟨N + 1, 2, none⟩ (.slice (some ⟨wr.heap.size, 0, none⟩) n n)) pr (fun _ => false) := by
  obtain ⟨v2, h1⟩ := h.rb
  have hlt := h1.lt
  have hs := (h1.alloc (.cells (madeCells #[.bool false] n) 4)).set 2 (.slice (some ⟨wr.heap.size, 0, none⟩) n n)
  refine ⟨by simpa [stf] using hs.cell (i := 0) (by omega), by simpa [stf] using hs.cell (i := 1) (by omega), by simpa [stf] using hs.cell (i := 2) (by omega), ?_, ?_, fun k hk => ⟨(h.la k hk).1, ?_⟩, ?_, ?_, fun hp => ?_⟩
  · exact (h.rp.alloc _).setOther (by show N ≠ N + 1; omega) _
  · exact (World.rowIs_made wr (.bool false) n 4).setOther (by show wr.heap.size ≠ N + 1; omega) _
  · rw [cell_ne _ _ (by show ba ≠ N + 1; have := h.lb (by omega); omega)]
    have hb : Below N w1 (wr.alloc (.cells (madeCells #[.bool false] n) 4)) := h.below.alloc (by omega) _
    rw [hb.cell (p := ⟨ba, 0 + k, none⟩) (h.lb (by omega))]
    exact (h.la k hk).2
  · omega
  · exact ⟨by omega, by omega⟩
  · have := h.lb hp; exact ⟨by omega, by omega⟩
theorem LW.back (h : LW n A c ba N lv w1 wr pr) {wm : World} (hwm : wm = (wr.alloc (.cells (madeCells #[.bool false] n) 4)).setCell ⟨N + 1, 2, none⟩ (.slice (some ⟨wr.heap.size, 0, none⟩) n n)) (t : Two2 N wr.heap.size wm w2) (m : MW n A c ba 0 (N + 1) N wr.heap.size lv w2 pr' sn') : LW n A c ba N lv w1 w2 pr' := by
  obtain ⟨v2, h1⟩ := h.rb
  have hlt := h1.lt
  subst hwm
  have hb : Below N w1 ((wr.alloc (.cells (madeCells #[.bool false] n) 4)).setCell ⟨N + 1, 2, none⟩ (.slice (some ⟨wr.heap.size, 0, none⟩) n n)) := (h.below.alloc (by omega) _).setCell (by show N ≤ N + 1; omega) _
  refine ⟨below_two hb (by omega) t, h.sz, ⟨.slice (some ⟨wr.heap.size, 0, none⟩) n n, ?_⟩, m.rp, h.la, h.lb⟩
  refine (((h1.alloc _).set 2 _).congr (g := stf A n c N (.slice (some ⟨wr.heap.size, 0, none⟩) n n)) fun i hi => ?_).of_block (t.block (N + 1) (by omega) (by omega))
  unfold stf
  by_cases e : i = 2
  · subst e; simp
  · by_cases e0 : i = 0
    · subst e0; simp
    · by_cases e1 : i = 1
      · subst e1; simp
      · omega
theorem LW.put (h : LW n A c ba N lv w1 wr pr) (k : Nat) (v : Int) : LW n A c ba N lv w1 (wr.setCell ⟨N, k, none⟩ (.int .i64 v)) (put pr k v) := by
  obtain ⟨v2, h1⟩ := h.rb
  exact ⟨h.below.setCell (Nat.le_refl _) _, h.sz, ⟨v2, h1.setOther (by show N + 1 ≠ N; omega) _⟩, (h.rp.set k _).congr (fun j _ => by unfold Ch.put; by_cases e : j = k <;> simp [e]), h.la, h.lb⟩
end
end Go.Proofs.YtcmllllbmgcnlaaGreat.Ch
end
