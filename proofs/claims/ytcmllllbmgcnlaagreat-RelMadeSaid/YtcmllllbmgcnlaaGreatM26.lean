/- Own texts, joined and cut to what the claim stands on: ChNextLaw, ChTryLaw, ChTry, ChNext. -/
import Derived.Deep.OwnRows
import Derived.Deep.QuietTactic
import Derived.Deep.LoopGhost
import Derived.Test.YtcmllllbmgcnlaaGreatM25
import Derived.Test.YtcmllllbmgcnlaaGreatM4
import Derived.Test.YtcmllllbmgcnlaaGreatM5
section
namespace Go.Proofs.YtcmllllbmgcnlaaGreat.Ch
set_option linter.unusedVariables false
set_option linter.unusedSimpArgs false
def Pl (n : Nat) (v : Int) : Prop := v = -1 ∨ ∃ k : Nat, k < n ∧ v = k
theorem Pl.neg {n : Nat} {v : Int} (h : Pl n v) (hn : v < 0) : v = -1 := by
  rcases h with h | ⟨k, _, h⟩ <;> omega
theorem Pl.pos {n : Nat} {v : Int} (h : Pl n v) (hn : 0 ≤ v) : ∃ k : Nat, k < n ∧ v = k := by
  rcases h with h | h
  · omega
  · exact h
def put (f : Nat → Int) (i : Nat) (v : Int) : Nat → Int := fun j => if j = i then v else f j
theorem put_same (f : Nat → Int) (i : Nat) (v : Int) : put f i v i = v := if_pos rfl
theorem put_ne (f : Nat → Int) {i j : Nat} (v : Int) (h : j ≠ i) : put f i v j = f j := if_neg h
section
variable {n : Nat} {E : Nat → Nat → Prop}
structure Mt (n : Nat) (E : Nat → Nat → Prop) (cur : Int) (tt fr : Nat → Int) : Prop where
  rt : ∀ s, s < n → Pl n (tt s)
  rf : ∀ k, k < n → Pl n (fr k)
  tf : ∀ s, s < n → ∀ k : Nat, tt s = k → fr k = s ∧ E s k ∧ (k : Int) ≠ cur
  ft : ∀ k : Nat, k < n → (k : Int) ≠ cur → ∀ s : Nat, fr k = s → tt s = k
structure Dead (n : Nat) (E : Nat → Nat → Prop) (tt fr : Nat → Int) (D : Nat → Prop) (i : Nat) : Prop where
  dead : ∀ k, D k → k < n ∧ ∃ s : Nat, fr k = s ∧ ∀ k', k' < n → E s k' → D k'
  fail : ∀ s, s < i → s < n → tt s = -1 → ∀ k, k < n → E s k → D k
  later : ∀ s, i ≤ s → s < n → tt s = -1
def NextO (n : Nat) (E : Nat → Nat → Prop) (tt fr : Nat → Int) (i : Nat) : Prop := Mt n E (-1) tt fr ∧ ∃ D, Dead n E tt fr D i
theorem nextO_start (n : Nat) (E : Nat → Nat → Prop) : NextO n E (fun _ => -1) (fun _ => -1) 0 :=
  ⟨⟨fun _ _ => .inl rfl, fun _ _ => .inl rfl, fun s hs k h => by omega, fun k hk _ s h => by omega⟩, fun _ => False, fun _ h => h.elim, fun s hs => absurd hs (Nat.not_lt_zero _), fun _ _ _ => rfl⟩
theorem nextO_fin {tt fr : Nat → Int} (h : NextO n E tt fr n) : ∃ F D, Fin n E fr F D := by
  obtain ⟨hm, D, hd⟩ := h
  refine ⟨(List.range n).filter fun s => decide (tt s < 0), D, ?_⟩
  have hmem : ∀ s, s ∈ (List.range n).filter (fun s => decide (tt s < 0)) ↔ s < n ∧ tt s < 0 := fun s => by simp [List.mem_filter]
  refine ⟨?_, ?_, List.Nodup.sublist List.filter_sublist List.nodup_range, ?_, ?_, ?_⟩
  · intro k k' hk hk' h0 e
    obtain ⟨s, hs, e1⟩ := (hm.rf k hk).pos h0
    have h1 := hm.ft k hk (by omega) s e1
    have h2 := hm.ft k' hk' (by omega) s (by omega)
    omega
  · intro k hk h0
    obtain ⟨s, hs, e1⟩ := (hm.rf k hk).pos h0
    have h1 := hm.ft k hk (by omega) s e1
    rw [e1]
    exact ⟨hs, (hm.tf s hs k h1).2.1⟩
  · intro s
    rw [hmem]
    constructor
    · rintro ⟨hs, h⟩
      refine ⟨hs, fun k hk e => ?_⟩
      have := hm.ft k hk (by omega) s e
      omega
    · rintro ⟨hs, h⟩
      refine ⟨hs, Int.not_le.1 fun h0 => ?_⟩
      obtain ⟨k, hk, e⟩ := (hm.rt s hs).pos h0
      exact h k hk (hm.tf s hs k e).1
  · intro k hk
    obtain ⟨h1, s, h2, h3⟩ := hd.dead k hk
    exact ⟨h1, by omega, fun k' hk' he => h3 k' hk' (by rw [h2] at he; exact he)⟩
  · intro s hs k hk he
    obtain ⟨hs1, hs2⟩ := (hmem s).1 hs
    exact hd.fail s hs1 hs1 ((hm.rt s hs1).neg hs2) k hk he
structure Tree (n : Nat) (E : Nat → Nat → Prop) (tt : Nat → Int) (i : Nat) (by_ : Nat → Int) (dep : Nat → Nat) : Prop where
  rng : ∀ k, k < n → Pl n (by_ k)
  up : ∀ k, k < n → ∀ s : Nat, by_ k = s → E s k ∧ (s = i ∨ ∃ q : Nat, q < n ∧ tt s = q ∧ 0 ≤ by_ q ∧ dep q < dep k)
def Rch (tt : Nat → Int) (i : Nat) (by_ : Nat → Int) (s : Nat) : Prop := s = i ∨ ∃ q : Nat, tt s = q ∧ 0 ≤ by_ q
structure Bfs (n : Nat) (E : Nat → Nat → Prop) (tt fr : Nat → Int) (i : Nat) (by_ : Nat → Int) (todo : List Nat) (cur : Option (Nat × Nat)) : Prop where
  tree : ∃ dep, Tree n E tt i by_ dep
  held : ∀ k, k < n → 0 ≤ by_ k → 0 ≤ fr k
  que : ∀ s ∈ todo, s < n ∧ Rch tt i by_ s
  curr : ∀ s k0, cur = some (s, k0) → s < n ∧ Rch tt i by_ s ∧ ∀ k, k < k0 → k < n → E s k → 0 ≤ by_ k
  proc : ∀ s, s < n → Rch tt i by_ s → s ∈ todo ∨ (∃ k0, cur = some (s, k0)) ∨ ∀ k, k < n → E s k → 0 ≤ by_ k
theorem bfs_start {tt fr : Nat → Int} {i : Nat} (hi : i < n) : Bfs n E tt fr i (fun _ => -1) [i] none :=
  ⟨⟨fun _ => 0, fun _ _ => .inl rfl, fun k hk s h => by omega⟩, fun k hk h => by omega, fun s hs => by
      rw [List.mem_singleton] at hs; subst hs; exact ⟨hi, .inl rfl⟩, fun s k0 h => by (cases h), fun s hs h => by
      rcases h with h | ⟨q, _, h⟩
      · exact .inl (List.mem_singleton.2 h)
      · exact absurd (show (0 : Int) ≤ -1 from h) (by decide)⟩
theorem bfs_pop {tt fr by_ : Nat → Int} {i s : Nat} {todo : List Nat} (h : Bfs n E tt fr i by_ (s :: todo) none) : Bfs n E tt fr i by_ todo (some (s, 0)) :=
  ⟨h.tree, h.held, fun x hx => h.que x (List.mem_cons_of_mem _ hx), fun x k0 e => by
      obtain ⟨rfl, rfl⟩ : s = x ∧ 0 = k0 := by injection e with e; injection e with a b; exact ⟨a, b⟩
      exact ⟨(h.que _ (List.mem_cons_self ..)).1, (h.que _ (List.mem_cons_self ..)).2, fun k hk => absurd hk (Nat.not_lt_zero _)⟩, fun x hx hr => by
      rcases h.proc x hx hr with h1 | ⟨_, h1⟩ | h1
      · rcases List.mem_cons.1 h1 with h1 | h1
        · exact .inr (.inl ⟨0, by rw [h1]⟩)
        · exact .inl h1
      · cases h1
      · exact .inr (.inr h1)⟩
theorem bfs_skip {tt fr by_ : Nat → Int} {i s k : Nat} {todo : List Nat} (h : Bfs n E tt fr i by_ todo (some (s, k))) (hk : k < n → E s k → 0 ≤ by_ k) : Bfs n E tt fr i by_ todo (some (s, k + 1)) :=
  ⟨h.tree, h.held, h.que, fun x k0 e => by
      obtain ⟨rfl, rfl⟩ : s = x ∧ k + 1 = k0 := by injection e with e; injection e with a b; exact ⟨a, b⟩
      obtain ⟨h1, h2, h3⟩ := h.curr s k rfl
      refine ⟨h1, h2, fun k' hk' hn he => ?_⟩
      rcases Nat.lt_or_eq_of_le (Nat.le_of_lt_succ hk') with h4 | h4
      · exact h3 k' h4 hn he
      · subst h4; exact hk hn he, fun x hx hr => by
      rcases h.proc x hx hr with h1 | ⟨k0, h1⟩ | h1
      · exact .inl h1
      · refine .inr (.inl ⟨k + 1, ?_⟩)
        injection h1 with h1; injection h1 with a b; rw [a]
      · exact .inr (.inr h1)⟩
theorem bfs_done {tt fr by_ : Nat → Int} {i s : Nat} {todo : List Nat} (h : Bfs n E tt fr i by_ todo (some (s, n))) : Bfs n E tt fr i by_ todo none :=
  ⟨h.tree, h.held, h.que, fun x k0 e => (by cases e), fun x hx hr => by
      rcases h.proc x hx hr with h1 | ⟨k0, h1⟩ | h1
      · exact .inl h1
      · obtain ⟨rfl, rfl⟩ : s = x ∧ n = k0 := by injection h1 with e; injection e with a b; exact ⟨a, b⟩
        exact .inr (.inr fun k hk he => (h.curr s n rfl).2.2 k hk hk he)
      · exact .inr (.inr h1)⟩
theorem tree_put {tt by_ : Nat → Int} {i s k : Nat} {dep : Nat → Nat} (ht : Tree n E tt i by_ dep) (hs : s < n) (hrt : ∀ q : Nat, tt s = q → q < n) (hr : Rch tt i by_ s) (hk : k < n) (he : E s k) (hb : by_ k < 0) :
    ∃ dep, Tree n E tt i (put by_ k s) dep := by
  have hold : ∀ j, j < n → 0 ≤ by_ j → j ≠ k := fun j hj h e => by subst e; omega
  refine ⟨fun j => if j = k then dep (tt s).toNat + 1 else dep j, fun j hj => ?_, fun j hj x hx => ?_⟩
  · unfold put
    by_cases e : j = k
    · rw [if_pos e]; exact .inr ⟨s, hs, rfl⟩
    · rw [if_neg e]; exact ht.rng j hj
  · by_cases e : j = k
    · subst e
      rw [put_same] at hx
      have hxs : x = s := by omega
      subst hxs
      refine ⟨he, ?_⟩
      rcases hr with h | ⟨q, h1, h2⟩
      · exact .inl h
      · have hqk : q ≠ j := fun e => by subst e; omega
        refine .inr ⟨q, hrt q h1, h1, by rw [put_ne _ _ hqk]; exact h2, ?_⟩
        simp only [if_neg hqk, if_pos, h1]
        simp
    · rw [put_ne _ _ e] at hx
      obtain ⟨h1, h2⟩ := ht.up j hj x hx
      refine ⟨h1, ?_⟩
      rcases h2 with h2 | ⟨q, q1, q2, q3, q4⟩
      · exact .inl h2
      · have hqk := hold q q1 q3
        exact .inr ⟨q, q1, q2, by rw [put_ne _ _ hqk]; exact q3, by simp only [if_neg hqk, if_neg e]; exact q4⟩
theorem bfs_push {tt fr by_ : Nat → Int} {i s k f : Nat} {todo : List Nat} (hm : Mt n E (-1) tt fr) (h : Bfs n E tt fr i by_ todo (some (s, k))) (hk : k < n) (he : E s k) (hb : by_ k < 0) (hf : fr k = f) (hfn : f < n) :
    Bfs n E tt fr i (put by_ k s) (todo ++ [f]) (some (s, k + 1)) := by
  obtain ⟨hs, hr, hprev⟩ := h.curr s k rfl
  obtain ⟨dep, ht⟩ := h.tree
  have hge : ∀ j, 0 ≤ by_ j → 0 ≤ put by_ k s j := fun j hj => by
    unfold put; by_cases e : j = k
    · rw [if_pos e]; omega
    · rw [if_neg e]; exact hj
  have hmono : ∀ x, Rch tt i by_ x → Rch tt i (put by_ k s) x := fun x hx => by
    rcases hx with h | ⟨q, h1, h2⟩
    · exact .inl h
    · exact .inr ⟨q, h1, hge q h2⟩
  have htf : tt f = k := hm.ft k hk (by omega) f hf
  refine ⟨tree_put ht hs (fun q hq => ?_) hr hk he hb, fun j hj h0 => ?_, fun x hx => ?_, fun x k0 e => ?_, fun x hx hr' => ?_⟩
  · obtain ⟨q', h1, h2⟩ := (hm.rt s hs).pos (by omega)
    omega
  · by_cases e : j = k
    · subst e; omega
    · rw [put_ne _ _ e] at h0; exact h.held j hj h0
  · rcases List.mem_append.1 hx with hx | hx
    · exact ⟨(h.que x hx).1, hmono x (h.que x hx).2⟩
    · rw [List.mem_singleton] at hx
      subst hx
      exact ⟨hfn, .inr ⟨k, htf, by rw [put_same]; omega⟩⟩
  · obtain ⟨rfl, rfl⟩ : s = x ∧ k + 1 = k0 := by injection e with e; injection e with a b; exact ⟨a, b⟩
    refine ⟨hs, hmono s hr, fun j hj hn hej => ?_⟩
    rcases Nat.lt_or_eq_of_le (Nat.le_of_lt_succ hj) with h4 | h4
    · exact hge j (hprev j h4 hn hej)
    · subst h4; rw [put_same]; omega
  · have : Rch tt i by_ x ∨ x = f := by
      rcases hr' with h1 | ⟨q, h1, h2⟩
      · exact .inl (.inl h1)
      · by_cases e : q = k
        · subst e
          right
          have := (hm.tf x hx q h1).1
          omega
        · rw [put_ne _ _ e] at h2; exact .inl (.inr ⟨q, h1, h2⟩)
    rcases this with h1 | h1
    · rcases h.proc x hx h1 with h2 | ⟨k0, h2⟩ | h2
      · exact .inl (List.mem_append_left _ h2)
      · refine .inr (.inl ⟨k + 1, ?_⟩)
        injection h2 with h2; injection h2 with a b; rw [a]
      · exact .inr (.inr fun j hj hej => hge j (h2 j hj hej))
    · exact .inl (List.mem_append_right _ (List.mem_singleton.2 h1))
theorem bfs_fail {tt fr by_ : Nat → Int} {i : Nat} (hi : i < n) (hm : Mt n E (-1) tt fr) {D : Nat → Prop} (hd : Dead n E tt fr D i) (h : Bfs n E tt fr i by_ [] none) : NextO n E tt fr (i + 1) := by
  refine ⟨hm, fun k => D k ∨ (k < n ∧ 0 ≤ by_ k), fun k hk => ?_, fun s hs hn h0 k hk he => ?_, fun s hs hn => hd.later s (by omega) hn⟩
  · rcases hk with hk | ⟨hk, h0⟩
    · obtain ⟨h1, s, h2, h3⟩ := hd.dead k hk
      exact ⟨h1, s, h2, fun k' hk' he => .inl (h3 k' hk' he)⟩
    · obtain ⟨s, hs, e⟩ := (hm.rf k hk).pos (h.held k hk h0)
      refine ⟨hk, s, e, fun k' hk' he => .inr ⟨hk', ?_⟩⟩
      have hto := hm.ft k hk (by omega) s e
      rcases h.proc s hs (.inr ⟨k, hto, h0⟩) with h1 | ⟨_, h1⟩ | h1
      · cases h1
      · cases h1
      · exact h1 k' hk' he
  · by_cases e : s = i
    · subst e
      rcases h.proc s hn (.inl rfl) with h1 | ⟨_, h1⟩ | h1
      · cases h1
      · cases h1
      · exact .inr ⟨hk, h1 k hk he⟩
    · exact .inl (hd.fail s (by omega) hn h0 k hk he)
structure Aug (n : Nat) (E : Nat → Nat → Prop) (tt fr : Nat → Int) (D : Nat → Prop) (i : Nat) (by_ : Nat → Int) (dep : Nat → Nat) (cur : Int) (tt' fr' : Nat → Int) : Prop where
  mt : Mt n E cur tt' fr'
  pl : Pl n cur
  at_ : ∀ k : Nat, cur = k → ¬ D k ∧ 0 ≤ by_ k ∧ ∀ s, s < n → (s = i ∨ ∃ q : Nat, tt s = q ∧ 0 ≤ by_ q ∧ dep q < dep k) → tt' s = tt s
  dsame : ∀ k, D k → fr' k = fr k
  grow : ∀ s, s < n → 0 ≤ tt s → 0 ≤ tt' s
  only : ∀ s, s < n → 0 ≤ tt' s → 0 ≤ tt s ∨ s = i
  fin : cur = -1 → 0 ≤ tt' i
theorem aug_start {tt fr by_ : Nat → Int} {i s k : Nat} {todo : List Nat} (hm : Mt n E (-1) tt fr) {D : Nat → Prop} (hd : Dead n E tt fr D i) (h : Bfs n E tt fr i by_ todo (some (s, k))) (hk : k < n) (he : E s k) (hb : by_ k < 0) (hf : fr k < 0) :
    ∃ dep, Tree n E tt i (put by_ k s) dep ∧ Aug n E tt fr D i (put by_ k s) dep k tt fr := by
  obtain ⟨hs, hr, hprev⟩ := h.curr s k rfl
  obtain ⟨dep, ht⟩ := h.tree
  obtain ⟨dep', ht'⟩ := tree_put ht hs (fun q hq => by obtain ⟨q', h1, h2⟩ := (hm.rt s hs).pos (by omega); omega) hr hk he hb
  refine ⟨dep', ht', ⟨hm.rt, hm.rf, fun s' hs' x hx => ⟨(hm.tf s' hs' x hx).1, (hm.tf s' hs' x hx).2.1, fun e => ?_⟩, fun x hx hne s' e => hm.ft x hx (by omega) s' e⟩, .inr ⟨k, hk, rfl⟩, fun k' e => ?_, fun _ _ => rfl, fun _ _ h => h, fun _ _ h => .inl h, fun e => by omega⟩
  · have := (hm.tf s' hs' x hx).1
    have hxk : x = k := by omega
    subst hxk; omega
  · have : k' = k := by omega
    subst this
    refine ⟨fun hD => ?_, by rw [put_same]; omega, fun _ _ _ => rfl⟩
    obtain ⟨_, s', e', _⟩ := hd.dead k' hD
    omega
theorem aug_step {tt fr by_ tt' fr' : Nat → Int} {i : Nat} {dep : Nat → Nat} {D : Nat → Prop} {k : Nat} (hi : i < n) (hti : tt i = -1) (hm : Mt n E (-1) tt fr) (hd : Dead n E tt fr D i) (ht : Tree n E tt i by_ dep) (h : Aug n E tt fr D i by_ dep k tt' fr') :
    ∃ s : Nat, s < n ∧ by_ k = s ∧ Pl n (tt' s) ∧ Aug n E tt fr D i by_ dep (tt' s) (put tt' s k) (put fr' k s) ∧ ∀ q : Nat, tt' s = q → dep q < dep k := by
  obtain ⟨hnD, hb, hsame⟩ := h.at_ k rfl
  have hk : k < n := by
    obtain ⟨k', h1, h2⟩ := h.pl.pos (by omega)
    omega
  obtain ⟨s, hs, e⟩ := (ht.rng k hk).pos hb
  obtain ⟨he, hup⟩ := ht.up k hk s e
  have hts : tt' s = tt s := hsame s hs (by
    rcases hup with h1 | ⟨q, h1, h2, h3, h4⟩
    · exact .inl h1
    · exact .inr ⟨q, h2, h3, h4⟩)
  refine ⟨s, hs, e, h.mt.rt s hs, ⟨⟨fun s' hs' => ?_, fun k' hk' => ?_, fun s' hs' x hx => ?_, fun x hx hne s' hx' => ?_⟩, h.mt.rt s hs, fun q hq => ?_, fun k' hk' => ?_, fun s' hs' h0 => ?_, fun s' hs' h0 => ?_, fun h1 => ?_⟩, fun q hq => ?_⟩
  · by_cases e' : s' = s
    · rw [e', put_same]; exact .inr ⟨k, hk, rfl⟩
    · rw [put_ne _ _ e']; exact h.mt.rt s' hs'
  · by_cases e' : k' = k
    · rw [e', put_same]; exact .inr ⟨s, hs, rfl⟩
    · rw [put_ne _ _ e']; exact h.mt.rf k' hk'
  · by_cases e' : s' = s
    · subst e'
      rw [put_same] at hx
      have hxk : x = k := by omega
      subst hxk
      refine ⟨put_same .., he, fun hc => ?_⟩
      exact (h.mt.tf s' hs x hc.symm).2.2 rfl
    · rw [put_ne _ _ e'] at hx
      obtain ⟨h1, h2, h3⟩ := h.mt.tf s' hs' x hx
      have hxk : x ≠ k := fun hc => h3 (by rw [hc])
      refine ⟨by rw [put_ne _ _ hxk]; exact h1, h2, fun hc => ?_⟩
      have := (h.mt.tf s hs x hc.symm).1
      omega
  · by_cases e' : x = k
    · subst e'
      rw [put_same] at hx'
      have : s' = s := by omega
      subst this
      exact put_same ..
    · rw [put_ne _ _ e'] at hx'
      have h1 := h.mt.ft x hx (by omega) s' hx'
      have : s' ≠ s := fun hc => by subst hc; omega
      rw [put_ne _ _ this]; exact h1
  · -- where it goes on
    rcases hup with h1 | ⟨q', h1, h2, h3, h4⟩
    · subst h1; omega
    · have hqq : q = q' := by omega
      subst hqq
      refine ⟨fun hD => ?_, h3, fun s' hs' hor => ?_⟩
      · obtain ⟨_, s'', e'', h5⟩ := hd.dead q hD
        have h6 := (hm.tf s hs q h2).1
        have : s'' = s := by omega
        subst this
        exact hnD (h5 k hk he)
      · have hne : s' ≠ s := fun hc => by
          subst hc
          rcases hor with h6 | ⟨q2, h6, h7, h8⟩
          · subst h6; omega
          · have : q2 = q := by omega
            subst this; omega
        rw [put_ne _ _ hne]
        refine hsame s' hs' ?_
        rcases hor with h6 | ⟨q2, h6, h7, h8⟩
        · exact .inl h6
        · exact .inr ⟨q2, h6, h7, by omega⟩
  · have : k' ≠ k := fun hc => by subst hc; exact hnD hk'
    rw [put_ne _ _ this]; exact h.dsame k' hk'
  · by_cases e' : s' = s
    · rw [e', put_same]; omega
    · rw [put_ne _ _ e']; exact h.grow s' hs' h0
  · by_cases e' : s' = s
    · subst e'
      rcases hup with h1 | ⟨q', _, h2, _⟩
      · exact .inr h1
      · exact .inl (by omega)
    · rw [put_ne _ _ e'] at h0; exact h.only s' hs' h0
  · rcases hup with h2 | ⟨q', _, h2, _⟩
    · rw [h2, put_same]; omega
    · omega
  · rcases hup with h1 | ⟨q', h1, h2, h3, h4⟩
    · subst h1; omega
    · have : q = q' := by omega
      subst this; exact h4
theorem aug_done {tt fr by_ tt' fr' : Nat → Int} {i : Nat} {dep : Nat → Nat} {D : Nat → Prop} (hi : i < n) (hd : Dead n E tt fr D i) (hm : Mt n E (-1) tt fr) (h : Aug n E tt fr D i by_ dep (-1) tt' fr') : NextO n E tt' fr' (i + 1) := by
  refine ⟨h.mt, D, fun k hk => ?_, fun s hs hn h0 k hk he => ?_, fun s hs hn => ?_⟩
  · obtain ⟨h1, s, h2, h3⟩ := hd.dead k hk
    exact ⟨h1, s, by rw [h.dsame k hk]; exact h2, h3⟩
  · have hsi : s ≠ i := fun e => by subst e; have := h.fin rfl; omega
    refine hd.fail s (by omega) hn ?_ k hk he
    refine (hm.rt s hn).neg (Int.not_le.1 fun hc => ?_)
    have := h.grow s hn hc
    omega
  · refine (h.mt.rt s hn).neg (Int.not_le.1 fun hc => ?_)
    rcases h.only s hn hc with h1 | h1
    · have := hd.later s (by omega) hn; omega
    · omega
end
def unr (n : Nat) (by_ : Nat → Int) : Nat := ((List.range n).filter fun k => decide (by_ k < 0)).length
theorem unr_le (n : Nat) (by_ : Nat → Int) : unr n by_ ≤ n := by
  have := List.length_filter_le (fun k => decide (by_ k < 0)) (List.range n)
  simpa [unr] using this
theorem unr_put {n : Nat} {by_ : Nat → Int} {k : Nat} {s : Nat} (hk : k < n) (hb : by_ k < 0) : unr n (put by_ k s) + 1 = unr n by_ := by
  have h1 : (k :: (List.range n).filter fun j => decide (put by_ k s j < 0)).Nodup := by
    rw [List.nodup_cons]
    refine ⟨fun h => ?_, List.Nodup.sublist List.filter_sublist List.nodup_range⟩
    have := (List.mem_filter.1 h).2
    rw [put_same] at this
    simp at this; omega
  have h2 : ((List.range n).filter fun j => decide (by_ j < 0)).Nodup := List.Nodup.sublist List.filter_sublist List.nodup_range
  have := eq_of_nodup h1 h2 fun x => by
    rw [List.mem_cons, List.mem_filter, List.mem_filter]
    simp only [List.mem_range, decide_eq_true_eq]
    by_cases e : x = k
    · subst e; simp [hk, hb]
    · rw [put_ne _ _ e]; simp [e]
  simpa [unr] using this
end Go.Proofs.YtcmllllbmgcnlaaGreat.Ch
end
section
namespace Go.Proofs.YtcmllllbmgcnlaaGreat.Ch
set_option linter.unusedVariables false
set_option linter.unusedSimpArgs false
section
variable {n : Nat} {E : Nat → Nat → Prop}
structure Mid (n : Nat) (E : Nat → Nat → Prop) (pr : Nat → Int) (sn : Nat → Bool) (i : Nat) (k0 : Nat) (sn1 : Nat → Bool) : Prop where
  ge : ∀ k, sn k = true → sn1 k = true
  all : ∀ k, k < k0 → k < n → E i k → sn1 k = true
  new : ∀ k, k < n → sn1 k = true → ¬ sn k = true → ∃ s : Nat, s < n ∧ pr k = s ∧ ∀ k', k' < n → E s k' → sn1 k' = true
end
end Go.Proofs.YtcmllllbmgcnlaaGreat.Ch
end
section
namespace Go.Proofs.YtcmllllbmgcnlaaGreat.Ch
open Go.RowKit Go.Deep Go.Proofs.YtcmllllbmgcnlaaGreat.G Go.Proofs.YtcmllllbmgcnlaaGreatW.PrintWords Go.Proofs.YtcmllllbmgcnlaaGreatW.PrintLast Go.Proofs.YtcmllllbmgcnlaaGreatW.PrintMore
set_option linter.unusedVariables false
set_option linter.unusedSimpArgs false
def Ed (lv : Nat → Int) (s k : Nat) : Prop := k ≠ s ∧ Go.bits .and .i64 (lv s) (lv k) = lv s
namespace Two2
variable {bp bs : Nat} {w w' w'' : World}
end Two2
section
variable {n : Nat} {A : Option Addr} {c ba oa b bp bs : Nat} {lv : Nat → Int} {w w' : World} {pr : Nat → Int} {sn : Nat → Bool}
theorem cell_ne (w : World) {a a' : Addr} (v : Value) (h : a.block ≠ a'.block) : (w.setCell a' v).cell? a = w.cell? a := World.cell?_of_block (blk_setCell_other _ _ _ _ h)
end
end Go.Proofs.YtcmllllbmgcnlaaGreat.Ch
end
section
namespace Go.Proofs.YtcmllllbmgcnlaaGreat.Ch
open Go.RowKit Go.Deep Go.Proofs.YtcmllllbmgcnlaaGreat.G Go.Proofs.YtcmllllbmgcnlaaGreat.Tup Go.Proofs.YtcmllllbmgcnlaaGreatW.PrintWords Go.Proofs.YtcmllllbmgcnlaaGreatW.PrintLast Go.Proofs.YtcmllllbmgcnlaaGreatW.PrintMore
set_option linter.unusedVariables false
set_option linter.unusedSimpArgs false
structure NB (n : Nat) (A : Option Addr) (ba : Nat) (lv : Nat → Int) (w0 : World) (bt bf : Nat) (wr : World) (tt fr : Nat → Int) : Prop where
  below : Below w0.heap.size w0 wr
  rt : wr.rowIs bt 3 n (fun k => .int .i64 (tt k))
  rf : wr.rowIs bf 3 n (fun k => .int .i64 (fr k))
  gt : w0.heap.size ≤ bt
  gf : w0.heap.size ≤ bf
  ne : bt ≠ bf
  la : ∀ k, k < n → A = some ⟨ba, 0, none⟩ ∧ w0.cell? ⟨ba, 0 + k, none⟩ = some (.int .i64 (lv k))
  lb : 0 < n → ba < w0.heap.size
section
variable {n : Nat} {A : Option Addr} {ba : Nat} {lv : Nat → Int} {w0 wr w2 : World} {bt bf bb : Nat} {tt fr by_ : Nat → Int}
theorem NB.cell (h : NB n A ba lv w0 bt bf wr tt fr) (k : Nat) (hk : k < n) : A = some ⟨ba, 0, none⟩ ∧ wr.cell? ⟨ba, 0 + k, none⟩ = some (.int .i64 (lv k)) :=
  ⟨(h.la k hk).1, by rw [h.below.cell (p := ⟨ba, 0 + k, none⟩) (h.lb (by omega))]; exact (h.la k hk).2⟩
theorem NB.drewN (h : NB n A ba lv w0 bt bf wr tt fr) (m : Nat) : NB n A ba lv w0 bt bf (wr.drewN m) tt fr := ⟨pw_below_drewN h.below m, h.rt, h.rf, h.gt, h.gf, h.ne, h.la, h.lb⟩
theorem NB.drew (h : NB n A ba lv w0 bt bf wr tt fr) : NB n A ba lv w0 bt bf wr.drew tt fr := ⟨h.below.drew, h.rt, h.rf, h.gt, h.gf, h.ne, h.la, h.lb⟩
theorem NB.alloc (h : NB n A ba lv w0 bt bf wr tt fr) (o : Obj) : NB n A ba lv w0 bt bf (wr.alloc o) tt fr := ⟨h.below.alloc h.below.size o, h.rt.alloc o, h.rf.alloc o, h.gt, h.gf, h.ne, h.la, h.lb⟩
theorem NB.setT (h : NB n A ba lv w0 bt bf wr tt fr) (k : Nat) (v : Int) : NB n A ba lv w0 bt bf (wr.setCell ⟨bt, k, none⟩ (.int .i64 v)) (put tt k v) fr :=
  ⟨h.below.setCell h.gt _, (h.rt.set k _).congr (fun j _ => by unfold put; by_cases e : j = k <;> simp [e]), h.rf.setOther h.ne.symm _, h.gt, h.gf, h.ne, h.la, h.lb⟩
theorem NB.setF (h : NB n A ba lv w0 bt bf wr tt fr) (k : Nat) (v : Int) : NB n A ba lv w0 bt bf (wr.setCell ⟨bf, k, none⟩ (.int .i64 v)) tt (put fr k v) :=
  ⟨h.below.setCell h.gf _, h.rt.setOther h.ne _, (h.rf.set k _).congr (fun j _ => by unfold put; by_cases e : j = k <;> simp [e]), h.gt, h.gf, h.ne, h.la, h.lb⟩
theorem NB.other (h : NB n A ba lv w0 bt bf wr tt fr) {a : Addr} (h1 : w0.heap.size ≤ a.block) (h2 : bt ≠ a.block) (h3 : bf ≠ a.block) (v : Value) : NB n A ba lv w0 bt bf (wr.setCell a v) tt fr :=
  ⟨h.below.setCell h1 _, h.rt.setOther h2 _, h.rf.setOther h3 _, h.gt, h.gf, h.ne, h.la, h.lb⟩
theorem NB.later {B : Nat} (h : NB n A ba lv w0 bt bf wr tt fr) (hb : Below B wr w2) (h0 : w0.heap.size ≤ B) (h1 : bt < B) (h2 : bf < B) : NB n A ba lv w0 bt bf w2 tt fr :=
  ⟨h.below.trans (hb.mono h0), h.rt.of_block (hb.block _ h1), h.rf.of_block (hb.block _ h2), h.gt, h.gf, h.ne, h.la, h.lb⟩
theorem NB.congr {tt' fr' : Nat → Int} (h : NB n A ba lv w0 bt bf wr tt fr) (e1 : ∀ k, k < n → tt k = tt' k) (e2 : ∀ k, k < n → fr k = fr' k) : NB n A ba lv w0 bt bf wr tt' fr' :=
  ⟨h.below, h.rt.congr fun k hk => by rw [e1 k hk], h.rf.congr fun k hk => by rw [e2 k hk], h.gt, h.gf, h.ne, h.la, h.lb⟩
structure NI (n : Nat) (A : Option Addr) (ba : Nat) (lv : Nat → Int) (w0 : World) (bt bf bb : Nat) (wr : World) (tt fr by_ : Nat → Int) : Prop where
  nb : NB n A ba lv w0 bt bf wr tt fr
  rb : wr.rowIs bb 3 n (fun k => .int .i64 (by_ k))
  ht : bt < bb
  hf : bf < bb
theorem NI.g0 (h : NI n A ba lv w0 bt bf bb wr tt fr by_) : w0.heap.size ≤ bb := by have := h.nb.gt; have := h.ht; omega
theorem NI.drewN (h : NI n A ba lv w0 bt bf bb wr tt fr by_) (m : Nat) : NI n A ba lv w0 bt bf bb (wr.drewN m) tt fr by_ := ⟨h.nb.drewN m, h.rb, h.ht, h.hf⟩
theorem NI.alloc (h : NI n A ba lv w0 bt bf bb wr tt fr by_) (o : Obj) : NI n A ba lv w0 bt bf bb (wr.alloc o) tt fr by_ := ⟨h.nb.alloc o, h.rb.alloc o, h.ht, h.hf⟩
theorem NI.setB (h : NI n A ba lv w0 bt bf bb wr tt fr by_) (k : Nat) (v : Int) : NI n A ba lv w0 bt bf bb (wr.setCell ⟨bb, k, none⟩ (.int .i64 v)) tt fr (put by_ k v) :=
  ⟨h.nb.other (a := ⟨bb, k, none⟩) h.g0 (by have := h.ht; show bt ≠ bb; omega) (by have := h.hf; show bf ≠ bb; omega) _, (h.rb.set k _).congr (fun j _ => by unfold put; by_cases e : j = k <;> simp [e]), h.ht, h.hf⟩
theorem NI.setT (h : NI n A ba lv w0 bt bf bb wr tt fr by_) (k : Nat) (v : Int) : NI n A ba lv w0 bt bf bb (wr.setCell ⟨bt, k, none⟩ (.int .i64 v)) (put tt k v) fr by_ :=
  ⟨h.nb.setT k v, h.rb.setOther (by have := h.ht; show bb ≠ bt; omega) _, h.ht, h.hf⟩
theorem NI.setF (h : NI n A ba lv w0 bt bf bb wr tt fr by_) (k : Nat) (v : Int) : NI n A ba lv w0 bt bf bb (wr.setCell ⟨bf, k, none⟩ (.int .i64 v)) tt (put fr k v) by_ :=
  ⟨h.nb.setF k v, h.rb.setOther (by have := h.hf; show bb ≠ bf; omega) _, h.ht, h.hf⟩
theorem NI.later (h : NI n A ba lv w0 bt bf bb wr tt fr by_) (hb : Below (bb + 1) wr w2) : NI n A ba lv w0 bt bf bb w2 tt fr by_ :=
  ⟨h.nb.later hb (by have := h.g0; omega) (by have := h.ht; omega) (by have := h.hf; omega), h.rb.of_block (hb.block _ (by omega)), h.ht, h.hf⟩
theorem NI.congr {by' : Nat → Int} (h : NI n A ba lv w0 bt bf bb wr tt fr by_) (e : ∀ k, k < n → by_ k = by' k) : NI n A ba lv w0 bt bf bb wr tt fr by' :=
  ⟨h.nb, h.rb.congr fun k hk => by rw [e k hk], h.ht, h.hf⟩
theorem ni_start (h : NB n A ba lv w0 bt bf wr tt fr) : NI n A ba lv w0 bt bf wr.heap.size (wr.alloc (.cells (madeCells #[.int .i64 0] n) 3)) tt fr (fun _ => 0) :=
  ⟨h.alloc _, World.rowIs_made wr (.int .i64 0) n 3, h.rt.lt, h.rf.lt⟩
end
abbrev Qu (wr : World) (bb : Nat) (v : Value) (todo : List Nat) : Prop := Kd.Q (Kd.int .i64) 3 wr (bb + 1) (fun k => bb < k) v (todo.map fun s : Nat => (s : Int))
theorem qu_start (wr : World) (bb : Nat) (hb : bb < wr.heap.size) (i : Nat) : Qu (wr.alloc (.cells #[.int .i64 (i : Int)] 3)) bb (.slice (some ⟨wr.heap.size, 0, none⟩) 1 1) [i] := by
  refine Kd.Q_of_R (Kd.R_of_own (h1 := fun _ => rfl) ⟨rfl, .inr ⟨wr.heap.size, 1, #[.int .i64 (i : Int)], rfl, hb, (by show (wr.heap.push _)[wr.heap.size]? = _; simp), Nat.le_refl _, by decide, rfl, rfl⟩⟩ fun k hk => ?_)
  have : wr.heap.size = k := by simpa [Value.ownBlock] using hk
  omega
theorem qu_below {wr : World} {bb : Nat} {v : Value} {todo : List Nat} (h : Qu wr bb v todo) {a : Addr} (ha : a.block ≤ bb) (u : Value) : Qu (wr.setCell a u) bb v todo :=
  Kd.Q_far h (fun k hk => by have : bb < k := hk; omega) u
end Go.Proofs.YtcmllllbmgcnlaaGreat.Ch
end
