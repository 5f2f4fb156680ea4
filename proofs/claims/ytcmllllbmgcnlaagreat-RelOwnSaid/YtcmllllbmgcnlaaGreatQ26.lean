/- Own texts, joined and cut to what the claim stands on: ChNextLaw, ChTryLaw. -/
import Derived.Test.YtcmllllbmgcnlaaGreatQ25
section
namespace Go.Proofs.YtcmllllbmgcnlaaGreat.Ch
set_option linter.unusedVariables false
set_option linter.unusedSimpArgs false
def Pl (n : Nat) (v : Int) : Prop := v = -1 ∨ ∃ k : Nat, k < n ∧ v = k
theorem Pl.neg {n : Nat} {v : Int} (h : Pl n v) (hn : v < 0) : v = -1 := by
  rcases h with h | ⟨k, _, h⟩ <;> omega
theorem Pl.pos {n : Nat} {v : Int} (h : Pl n v) (hn : 0 ≤ v) : ∃ k : Nat, k < n ∧ v = k := by
  rcases h with h | h
  · omega
  · exact h
def put (f : Nat → Int) (i : Nat) (v : Int) : Nat → Int := fun j => if j = i then v else f j
theorem put_same (f : Nat → Int) (i : Nat) (v : Int) : put f i v i = v := if_pos rfl
theorem put_ne (f : Nat → Int) {i j : Nat} (v : Int) (h : j ≠ i) : put f i v j = f j := if_neg h
section
variable {n : Nat} {E : Nat → Nat → Prop}
structure Mt (n : Nat) (E : Nat → Nat → Prop) (cur : Int) (tt fr : Nat → Int) : Prop where
  rt : ∀ s, s < n → Pl n (tt s)
  rf : ∀ k, k < n → Pl n (fr k)
  tf : ∀ s, s < n → ∀ k : Nat, tt s = k → fr k = s ∧ E s k ∧ (k : Int) ≠ cur
  ft : ∀ k : Nat, k < n → (k : Int) ≠ cur → ∀ s : Nat, fr k = s → tt s = k
structure Dead (n : Nat) (E : Nat → Nat → Prop) (tt fr : Nat → Int) (D : Nat → Prop) (i : Nat) : Prop where
  dead : ∀ k, D k → k < n ∧ ∃ s : Nat, fr k = s ∧ ∀ k', k' < n → E s k' → D k'
  fail : ∀ s, s < i → s < n → tt s = -1 → ∀ k, k < n → E s k → D k
  later : ∀ s, i ≤ s → s < n → tt s = -1
def NextO (n : Nat) (E : Nat → Nat → Prop) (tt fr : Nat → Int) (i : Nat) : Prop := Mt n E (-1) tt fr ∧ ∃ D, Dead n E tt fr D i
theorem nextO_start (n : Nat) (E : Nat → Nat → Prop) : NextO n E (fun _ => -1) (fun _ => -1) 0 :=
  ⟨⟨fun _ _ => .inl rfl, fun _ _ => .inl rfl, fun s hs k h => by omega, fun k hk _ s h => by omega⟩, fun _ => False, fun _ h => h.elim, fun s hs => absurd hs (Nat.not_lt_zero _), fun _ _ _ => rfl⟩
theorem nextO_fin {tt fr : Nat → Int} (h : NextO n E tt fr n) : ∃ F D, Fin n E fr F D := by
  obtain ⟨hm, D, hd⟩ := h
  refine ⟨(List.range n).filter fun s => decide (tt s < 0), D, ?_⟩
  have hmem : ∀ s, s ∈ (List.range n).filter (fun s => decide (tt s < 0)) ↔ s < n ∧ tt s < 0 := fun s => by simp [List.mem_filter]
  refine ⟨?_, ?_, List.Nodup.sublist List.filter_sublist List.nodup_range, ?_, ?_, ?_⟩
  · intro k k' hk hk' h0 e
    obtain ⟨s, hs, e1⟩ := (hm.rf k hk).pos h0
    have h1 := hm.ft k hk (by omega) s e1
    have h2 := hm.ft k' hk' (by omega) s (by omega)
    omega
  · intro k hk h0
    obtain ⟨s, hs, e1⟩ := (hm.rf k hk).pos h0
    have h1 := hm.ft k hk (by omega) s e1
    rw [e1]
    exact ⟨hs, (hm.tf s hs k h1).2.1⟩
  · intro s
    rw [hmem]
    constructor
    · rintro ⟨hs, h⟩
      refine ⟨hs, fun k hk e => ?_⟩
      have := hm.ft k hk (by omega) s e
      omega
    · rintro ⟨hs, h⟩
      refine ⟨hs, Int.not_le.1 fun h0 => ?_⟩
      obtain ⟨k, hk, e⟩ := (hm.rt s hs).pos h0
      exact h k hk (hm.tf s hs k e).1
  · intro k hk
    obtain ⟨h1, s, h2, h3⟩ := hd.dead k hk
    exact ⟨h1, by omega, fun k' hk' he => h3 k' hk' (by rw [h2] at he; exact he)⟩
  · intro s hs k hk he
    obtain ⟨hs1, hs2⟩ := (hmem s).1 hs
    exact hd.fail s hs1 hs1 ((hm.rt s hs1).neg hs2) k hk he
structure Tree (n : Nat) (E : Nat → Nat → Prop) (tt : Nat → Int) (i : Nat) (by_ : Nat → Int) (dep : Nat → Nat) : Prop where
  rng : ∀ k, k < n → Pl n (by_ k)
  up : ∀ k, k < n → ∀ s : Nat, by_ k = s → E s k ∧ (s = i ∨ ∃ q : Nat, q < n ∧ tt s = q ∧ 0 ≤ by_ q ∧ dep q < dep k)
def Rch (tt : Nat → Int) (i : Nat) (by_ : Nat → Int) (s : Nat) : Prop := s = i ∨ ∃ q : Nat, tt s = q ∧ 0 ≤ by_ q
structure Bfs (n : Nat) (E : Nat → Nat → Prop) (tt fr : Nat → Int) (i : Nat) (by_ : Nat → Int) (todo : List Nat) (cur : Option (Nat × Nat)) : Prop where
  tree : ∃ dep, Tree n E tt i by_ dep
  held : ∀ k, k < n → 0 ≤ by_ k → 0 ≤ fr k
  que : ∀ s ∈ todo, s < n ∧ Rch tt i by_ s
  curr : ∀ s k0, cur = some (s, k0) → s < n ∧ Rch tt i by_ s ∧ ∀ k, k < k0 → k < n → E s k → 0 ≤ by_ k
  proc : ∀ s, s < n → Rch tt i by_ s → s ∈ todo ∨ (∃ k0, cur = some (s, k0)) ∨ ∀ k, k < n → E s k → 0 ≤ by_ k
theorem bfs_start {tt fr : Nat → Int} {i : Nat} (hi : i < n) : Bfs n E tt fr i (fun _ => -1) [i] none :=
  ⟨⟨fun _ => 0, fun _ _ => .inl rfl, fun k hk s h => by omega⟩, fun k hk h => by omega, fun s hs => by
      rw [List.mem_singleton] at hs; subst hs; exact ⟨hi, .inl rfl⟩, fun s k0 h => by (cases h), fun s hs h => by
      rcases h with h | ⟨q, _, h⟩
      · exact .inl (List.mem_singleton.2 h)
      · exact absurd (show (0 : Int) ≤ -1 from h) (by decide)⟩
theorem bfs_pop {tt fr by_ : Nat → Int} {i s : Nat} {todo : List Nat} (h : Bfs n E tt fr i by_ (s :: todo) none) : Bfs n E tt fr i by_ todo (some (s, 0)) :=
  ⟨h.tree, h.held, fun x hx => h.que x (List.mem_cons_of_mem _ hx), fun x k0 e => by
      obtain ⟨rfl, rfl⟩ : s = x ∧ 0 = k0 := by injection e with e; injection e with a b; exact ⟨a, b⟩
      exact ⟨(h.que _ (List.mem_cons_self ..)).1, (h.que _ (List.mem_cons_self ..)).2, fun k hk => absurd hk (Nat.not_lt_zero _)⟩, fun x hx hr => by
      rcases h.proc x hx hr with h1 | ⟨_, h1⟩ | h1
      · rcases List.mem_cons.1 h1 with h1 | h1
        · exact .inr (.inl ⟨0, by rw [h1]⟩)
        · exact .inl h1
      · cases h1
      · exact .inr (.inr h1)⟩
theorem bfs_skip {tt fr by_ : Nat → Int} {i s k : Nat} {todo : List Nat} (h : Bfs n E tt fr i by_ todo (some (s, k))) (hk : k < n → E s k → 0 ≤ by_ k) : Bfs n E tt fr i by_ todo (some (s, k + 1)) :=
  ⟨h.tree, h.held, h.que, fun x k0 e => by
      obtain ⟨rfl, rfl⟩ : s = x ∧ k + 1 = k0 := by injection e with e; injection e with a b; exact ⟨a, b⟩
      obtain ⟨h1, h2, h3⟩ := h.curr s k rfl
      refine ⟨h1, h2, fun k' hk' hn he => ?_⟩
      rcases Nat.lt_or_eq_of_le (Nat.le_of_lt_succ hk') with h4 | h4
      · exact h3 k' h4 hn he
      · subst h4; exact hk hn he, fun x hx hr => by
      rcases h.proc x hx hr with h1 | ⟨k0, h1⟩ | h1
      · exact .inl h1
      · refine .inr (.inl ⟨k + 1, ?_⟩)
        injection h1 with h1; injection h1 with a b; rw [a]
      · exact .inr (.inr h1)⟩
theorem bfs_done {tt fr by_ : Nat → Int} {i s : Nat} {todo : List Nat} (h : Bfs n E tt fr i by_ todo (some (s, n))) : Bfs n E tt fr i by_ todo none :=
  ⟨h.tree, h.held, h.que, fun x k0 e => (by cases e), fun x hx hr => by
      rcases h.proc x hx hr with h1 | ⟨k0, h1⟩ | h1
      · exact .inl h1
      · obtain ⟨rfl, rfl⟩ : s = x ∧ n = k0 := by injection h1 with e; injection e with a b; exact ⟨a, b⟩
        exact .inr (.inr fun k hk he => (h.curr s n rfl).2.2 k hk hk he)
      · exact .inr (.inr h1)⟩
theorem tree_put {tt by_ : Nat → Int} {i s k : Nat} {dep : Nat → Nat} (ht : Tree n E tt i by_ dep) (hs : s < n) (hrt : ∀ q : Nat, tt s = q → q < n) (hr : Rch tt i by_ s) (hk : k < n) (he : E s k) (hb : by_ k < 0) :
    ∃ dep, Tree n E tt i (put by_ k s) dep := by
  have hold : ∀ j, j < n → 0 ≤ by_ j → j ≠ k := fun j hj h e => by subst e; omega
  refine ⟨fun j => if j = k then dep (tt s).toNat + 1 else dep j, fun j hj => ?_, fun j hj x hx => ?_⟩
  · unfold put
    by_cases e : j = k
    · rw [if_pos e]; exact .inr ⟨s, hs, rfl⟩
    · rw [if_neg e]; exact ht.rng j hj
  · by_cases e : j = k
    · subst e
      rw [put_same] at hx
      have hxs : x = s := by omega
      subst hxs
      refine ⟨he, ?_⟩
      rcases hr with h | ⟨q, h1, h2⟩
      · exact .inl h
      · have hqk : q ≠ j := fun e => by subst e; omega
        refine .inr ⟨q, hrt q h1, h1, by rw [put_ne _ _ hqk]; exact h2, ?_⟩
        simp only [if_neg hqk, if_pos, h1]
        simp
    · rw [put_ne _ _ e] at hx
      obtain ⟨h1, h2⟩ := ht.up j hj x hx
      refine ⟨h1, ?_⟩
      rcases h2 with h2 | ⟨q, q1, q2, q3, q4⟩
      · exact .inl h2
      · have hqk := hold q q1 q3
        exact .inr ⟨q, q1, q2, by rw [put_ne _ _ hqk]; exact q3, by simp only [if_neg hqk, if_neg e]; exact q4⟩
theorem bfs_push {tt fr by_ : Nat → Int} {i s k f : Nat} {todo : List Nat} (hm : Mt n E (-1) tt fr) (h : Bfs n E tt fr i by_ todo (some (s, k))) (hk : k < n) (he : E s k) (hb : by_ k < 0) (hf : fr k = f) (hfn : f < n) :
    Bfs n E tt fr i (put by_ k s) (todo ++ [f]) (some (s, k + 1)) := by
  obtain ⟨hs, hr, hprev⟩ := h.curr s k rfl
  obtain ⟨dep, ht⟩ := h.tree
  have hge : ∀ j, 0 ≤ by_ j → 0 ≤ put by_ k s j := fun j hj => by
    unfold put; by_cases e : j = k
    · rw [if_pos e]; omega
    · rw [if_neg e]; exact hj
  have hmono : ∀ x, Rch tt i by_ x → Rch tt i (put by_ k s) x := fun x hx => by
    rcases hx with h | ⟨q, h1, h2⟩
    · exact .inl h
    · exact .inr ⟨q, h1, hge q h2⟩
  have htf : tt f = k := hm.ft k hk (by omega) f hf
  refine ⟨tree_put ht hs (fun q hq => ?_) hr hk he hb, fun j hj h0 => ?_, fun x hx => ?_, fun x k0 e => ?_, fun x hx hr' => ?_⟩
  · obtain ⟨q', h1, h2⟩ := (hm.rt s hs).pos (by omega)
    omega
  · by_cases e : j = k
    · subst e; omega
    · rw [put_ne _ _ e] at h0; exact h.held j hj h0
  · rcases List.mem_append.1 hx with hx | hx
    · exact ⟨(h.que x hx).1, hmono x (h.que x hx).2⟩
    · rw [List.mem_singleton] at hx
      subst hx
      exact ⟨hfn, .inr ⟨k, htf, by rw [put_same]; omega⟩⟩
  · obtain ⟨rfl, rfl⟩ : s = x ∧ k + 1 = k0 := by injection e with e; injection e with a b; exact ⟨a, b⟩
    refine ⟨hs, hmono s hr, fun j hj hn hej => ?_⟩
    rcases Nat.lt_or_eq_of_le (Nat.le_of_lt_succ hj) with h4 | h4
    · exact hge j (hprev j h4 hn hej)
    · subst h4; rw [put_same]; omega
  · have : Rch tt i by_ x ∨ x = f := by
      rcases hr' with h1 | ⟨q, h1, h2⟩
      · exact .inl (.inl h1)
      · by_cases e : q = k
        · subst e
          right
          have := (hm.tf x hx q h1).1
          omega
        · rw [put_ne _ _ e] at h2; exact .inl (.inr ⟨q, h1, h2⟩)
    rcases this with h1 | h1
    · rcases h.proc x hx h1 with h2 | ⟨k0, h2⟩ | h2
      · exact .inl (List.mem_append_left _ h2)
      · refine .inr (.inl ⟨k + 1, ?_⟩)
        injection h2 with h2; injection h2 with a b; rw [a]
      · exact .inr (.inr fun j hj hej => hge j (h2 j hj hej))
    · exact .inl (List.mem_append_right _ (List.mem_singleton.2 h1))
theorem bfs_fail {tt fr by_ : Nat → Int} {i : Nat} (hi : i < n) (hm : Mt n E (-1) tt fr) {D : Nat → Prop} (hd : Dead n E tt fr D i) (h : Bfs n E tt fr i by_ [] none) : NextO n E tt fr (i + 1) := by
  refine ⟨hm, fun k => D k ∨ (k < n ∧ 0 ≤ by_ k), fun k hk => ?_, fun s hs hn h0 k hk he => ?_, fun s hs hn => hd.later s (by omega) hn⟩
  · rcases hk with hk | ⟨hk, h0⟩
    · obtain ⟨h1, s, h2, h3⟩ := hd.dead k hk
      exact ⟨h1, s, h2, fun k' hk' he => .inl (h3 k' hk' he)⟩
    · obtain ⟨s, hs, e⟩ := (hm.rf k hk).pos (h.held k hk h0)
      refine ⟨hk, s, e, fun k' hk' he => .inr ⟨hk', ?_⟩⟩
      have hto := hm.ft k hk (by omega) s e
      rcases h.proc s hs (.inr ⟨k, hto, h0⟩) with h1 | ⟨_, h1⟩ | h1
      · cases h1
      · cases h1
      · exact h1 k' hk' he
  · by_cases e : s = i
    · subst e
      rcases h.proc s hn (.inl rfl) with h1 | ⟨_, h1⟩ | h1
      · cases h1
      · cases h1
      · exact .inr ⟨hk, h1 k hk he⟩
    · exact .inl (hd.fail s (by omega) hn h0 k hk he)
structure Aug (n : Nat) (E : Nat → Nat → Prop) (tt fr : Nat → Int) (D : Nat → Prop) (i : Nat) (by_ : Nat → Int) (dep : Nat → Nat) (cur : Int) (tt' fr' : Nat → Int) : Prop where
  mt : Mt n E cur tt' fr'
  pl : Pl n cur
  at_ : ∀ k : Nat, cur = k → ¬ D k ∧ 0 ≤ by_ k ∧ ∀ s, s < n → (s = i ∨ ∃ q : Nat, tt s = q ∧ 0 ≤ by_ q ∧ dep q < dep k) → tt' s = tt s
  dsame : ∀ k, D k → fr' k = fr k
  grow : ∀ s, s < n → 0 ≤ tt s → 0 ≤ tt' s
  only : ∀ s, s < n → 0 ≤ tt' s → 0 ≤ tt s ∨ s = i
  fin : cur = -1 → 0 ≤ tt' i
theorem aug_start {tt fr by_ : Nat → Int} {i s k : Nat} {todo : List Nat} (hm : Mt n E (-1) tt fr) {D : Nat → Prop} (hd : Dead n E tt fr D i) (h : Bfs n E tt fr i by_ todo (some (s, k))) (hk : k < n) (he : E s k) (hb : by_ k < 0) (hf : fr k < 0) :
    ∃ dep, Tree n E tt i (put by_ k s) dep ∧ Aug n E tt fr D i (put by_ k s) dep k tt fr := by
  obtain ⟨hs, hr, hprev⟩ := h.curr s k rfl
  obtain ⟨dep, ht⟩ := h.tree
  obtain ⟨dep', ht'⟩ := tree_put ht hs (fun q hq => by obtain ⟨q', h1, h2⟩ := (hm.rt s hs).pos (by omega); omega) hr hk he hb
  refine ⟨dep', ht', ⟨hm.rt, hm.rf, fun s' hs' x hx => ⟨(hm.tf s' hs' x hx).1, (hm.tf s' hs' x hx).2.1, fun e => ?_⟩, fun x hx hne s' e => hm.ft x hx (by omega) s' e⟩, .inr ⟨k, hk, rfl⟩, fun k' e => ?_, fun _ _ => rfl, fun _ _ h => h, fun _ _ h => .inl h, fun e => by omega⟩
  · have := (hm.tf s' hs' x hx).1
    have hxk : x = k := by omega
    subst hxk; omega
  · have : k' = k := by omega
    subst this
    refine ⟨fun hD => ?_, by rw [put_same]; omega, fun _ _ _ => rfl⟩
    obtain ⟨_, s', e', _⟩ := hd.dead k' hD
    omega
theorem aug_step {tt fr by_ tt' fr' : Nat → Int} {i : Nat} {dep : Nat → Nat} {D : Nat → Prop} {k : Nat} (hi : i < n) (hti : tt i = -1) (hm : Mt n E (-1) tt fr) (hd : Dead n E tt fr D i) (ht : Tree n E tt i by_ dep) (h : Aug n E tt fr D i by_ dep k tt' fr') :
    ∃ s : Nat, s < n ∧ by_ k = s ∧ Pl n (tt' s) ∧ Aug n E tt fr D i by_ dep (tt' s) (put tt' s k) (put fr' k s) ∧ ∀ q : Nat, tt' s = q → dep q < dep k := by
  obtain ⟨hnD, hb, hsame⟩ := h.at_ k rfl
  have hk : k < n := by
    obtain ⟨k', h1, h2⟩ := h.pl.pos (by omega)
    omega
  obtain ⟨s, hs, e⟩ := (ht.rng k hk).pos hb
  obtain ⟨he, hup⟩ := ht.up k hk s e
  have hts : tt' s = tt s := hsame s hs (by
    rcases hup with h1 | ⟨q, h1, h2, h3, h4⟩
    · exact .inl h1
    · exact .inr ⟨q, h2, h3, h4⟩)
  refine ⟨s, hs, e, h.mt.rt s hs, ⟨⟨fun s' hs' => ?_, fun k' hk' => ?_, fun s' hs' x hx => ?_, fun x hx hne s' hx' => ?_⟩, h.mt.rt s hs, fun q hq => ?_, fun k' hk' => ?_, fun s' hs' h0 => ?_, fun s' hs' h0 => ?_, fun h1 => ?_⟩, fun q hq => ?_⟩
  · by_cases e' : s' = s
    · rw [e', put_same]; exact .inr ⟨k, hk, rfl⟩
    · rw [put_ne _ _ e']; exact h.mt.rt s' hs'
  · by_cases e' : k' = k
    · rw [e', put_same]; exact .inr ⟨s, hs, rfl⟩
    · rw [put_ne _ _ e']; exact h.mt.rf k' hk'
  · by_cases e' : s' = s
    · subst e'
      rw [put_same] at hx
      have hxk : x = k := by omega
      subst hxk
      refine ⟨put_same .., he, fun hc => ?_⟩
      exact (h.mt.tf s' hs x hc.symm).2.2 rfl
    · rw [put_ne _ _ e'] at hx
      obtain ⟨h1, h2, h3⟩ := h.mt.tf s' hs' x hx
      have hxk : x ≠ k := fun hc => h3 (by rw [hc])
      refine ⟨by rw [put_ne _ _ hxk]; exact h1, h2, fun hc => ?_⟩
      have := (h.mt.tf s hs x hc.symm).1
      omega
  · by_cases e' : x = k
    · subst e'
      rw [put_same] at hx'
      have : s' = s := by omega
      subst this
      exact put_same ..
    · rw [put_ne _ _ e'] at hx'
      have h1 := h.mt.ft x hx (by omega) s' hx'
      have : s' ≠ s := fun hc => by subst hc; omega
      rw [put_ne _ _ this]; exact h1
  · -- where it goes on
    rcases hup with h1 | ⟨q', h1, h2, h3, h4⟩
    · subst h1; omega
    · have hqq : q = q' := by omega
      subst hqq
      refine ⟨fun hD => ?_, h3, fun s' hs' hor => ?_⟩
      · obtain ⟨_, s'', e'', h5⟩ := hd.dead q hD
        have h6 := (hm.tf s hs q h2).1
        have : s'' = s := by omega
        subst this
        exact hnD (h5 k hk he)
      · have hne : s' ≠ s := fun hc => by
          subst hc
          rcases hor with h6 | ⟨q2, h6, h7, h8⟩
          · subst h6; omega
          · have : q2 = q := by omega
            subst this; omega
        rw [put_ne _ _ hne]
        refine hsame s' hs' ?_
        rcases hor with h6 | ⟨q2, h6, h7, h8⟩
        · exact .inl h6
        · exact .inr ⟨q2, h6, h7, by omega⟩
  · have : k' ≠ k := fun hc => by subst hc; exact hnD hk'
    rw [put_ne _ _ this]; exact h.dsame k' hk'
  · by_cases e' : s' = s
    · rw [e', put_same]; omega
    · rw [put_ne _ _ e']; exact h.grow s' hs' h0
  · by_cases e' : s' = s
    · subst e'
      rcases hup with h1 | ⟨q', _, h2, _⟩
      · exact .inr h1
      · exact .inl (by omega)
    · rw [put_ne _ _ e'] at h0; exact h.only s' hs' h0
  · rcases hup with h2 | ⟨q', _, h2, _⟩
    · rw [h2, put_same]; omega
    · omega
  · rcases hup with h1 | ⟨q', h1, h2, h3, h4⟩
    · subst h1; omega
    · have : q = q' := by omega
      subst this; exact h4
theorem aug_done {tt fr by_ tt' fr' : Nat → Int} {i : Nat} {dep : Nat → Nat} {D : Nat → Prop} (hi : i < n) (hd : Dead n E tt fr D i) (hm : Mt n E (-1) tt fr) (h : Aug n E tt fr D i by_ dep (-1) tt' fr') : NextO n E tt' fr' (i + 1) := by
  refine ⟨h.mt, D, fun k hk => ?_, fun s hs hn h0 k hk he => ?_, fun s hs hn => ?_⟩
  · obtain ⟨h1, s, h2, h3⟩ := hd.dead k hk
    exact ⟨h1, s, by rw [h.dsame k hk]; exact h2, h3⟩
  · have hsi : s ≠ i := fun e => by subst e; have := h.fin rfl; omega
    refine hd.fail s (by omega) hn ?_ k hk he
    refine (hm.rt s hn).neg (Int.not_le.1 fun hc => ?_)
    have := h.grow s hn hc
    omega
  · refine (h.mt.rt s hn).neg (Int.not_le.1 fun hc => ?_)
    rcases h.only s hn hc with h1 | h1
    · have := hd.later s (by omega) hn; omega
    · omega
end
def unr (n : Nat) (by_ : Nat → Int) : Nat := ((List.range n).filter fun k => decide (by_ k < 0)).length
theorem unr_le (n : Nat) (by_ : Nat → Int) : unr n by_ ≤ n := by
  have := List.length_filter_le (fun k => decide (by_ k < 0)) (List.range n)
  simpa [unr] using this
theorem unr_put {n : Nat} {by_ : Nat → Int} {k : Nat} {s : Nat} (hk : k < n) (hb : by_ k < 0) : unr n (put by_ k s) + 1 = unr n by_ := by
  have h1 : (k :: (List.range n).filter fun j => decide (put by_ k s j < 0)).Nodup := by
    rw [List.nodup_cons]
    refine ⟨fun h => ?_, List.Nodup.sublist List.filter_sublist List.nodup_range⟩
    have := (List.mem_filter.1 h).2
    rw [put_same] at this
    simp at this; omega
  have h2 : ((List.range n).filter fun j => decide (by_ j < 0)).Nodup := List.Nodup.sublist List.filter_sublist List.nodup_range
  have := eq_of_nodup h1 h2 fun x => by
    rw [List.mem_cons, List.mem_filter, List.mem_filter]
    simp only [List.mem_range, decide_eq_true_eq]
    by_cases e : x = k
    · subst e; simp [hk, hb]
    · rw [put_ne _ _ e]; simp [e]
  simpa [unr] using this
end Go.Proofs.YtcmllllbmgcnlaaGreat.Ch
end
section
namespace Go.Proofs.YtcmllllbmgcnlaaGreat.Ch
set_option linter.unusedVariables false
set_option linter.unusedSimpArgs false
def putB (f : Nat → Bool) (i : Nat) : Nat → Bool := fun j => if j = i then true else f j
theorem putB_same (f : Nat → Bool) (i : Nat) : putB f i i = true := if_pos rfl
theorem putB_ne (f : Nat → Bool) {i j : Nat} (h : j ≠ i) : putB f i j = f j := if_neg h
theorem putB_of {f : Nat → Bool} {i j : Nat} (h : f j = true) : putB f i j = true := by
  unfold putB; by_cases e : j = i
  · rw [if_pos e]
  · rw [if_neg e]; exact h
theorem putB_not {f : Nat → Bool} {i j : Nat} (h : ¬ putB f i j = true) : ¬ f j = true ∧ j ≠ i := ⟨fun e => h (putB_of e), fun e => h (by rw [e]; exact putB_same ..)⟩
section
variable {n : Nat} {E : Nat → Nat → Prop}
def Clo (n : Nat) (E : Nat → Nat → Prop) (pr : Nat → Int) (D : Nat → Prop) : Prop := ∀ k, D k → k < n ∧ ∃ s : Nat, pr k = s ∧ ∀ k', k' < n → E s k' → D k'
structure Pre (n : Nat) (E : Nat → Nat → Prop) (pr : Nat → Int) (sn : Nat → Bool) (i : Nat) : Prop where
  rng : ∀ k, k < n → Pl n (pr k)
  inj : ∀ k k', k < n → k' < n → ¬ sn k = true → ¬ sn k' = true → 0 ≤ pr k → pr k = pr k' → k = k'
  edge : ∀ k, k < n → ∀ s : Nat, pr k = s → E s k
  new : ∀ k, k < n → ¬ sn k = true → pr k ≠ i
  lt : i < n
structure TryNo (n : Nat) (E : Nat → Nat → Prop) (pr : Nat → Int) (sn : Nat → Bool) (i : Nat) (sn' : Nat → Bool) : Prop where
  ge : ∀ k, sn k = true → sn' k = true
  all : ∀ k, k < n → E i k → sn' k = true
  new : ∀ k, k < n → sn' k = true → ¬ sn k = true → ∃ s : Nat, s < n ∧ pr k = s ∧ ∀ k', k' < n → E s k' → sn' k' = true
structure TryYes (n : Nat) (E : Nat → Nat → Prop) (pr : Nat → Int) (sn : Nat → Bool) (i : Nat) (pr' : Nat → Int) : Prop where
  keep : ∀ k, sn k = true → pr' k = pr k
  rng : ∀ k, k < n → Pl n (pr' k)
  inj : ∀ k k', k < n → k' < n → ¬ sn k = true → ¬ sn k' = true → 0 ≤ pr' k → pr' k = pr' k' → k = k'
  edge : ∀ k, k < n → ∀ s : Nat, pr' k = s → E s k
  img : ∀ k, k < n → ¬ sn k = true → ∀ s : Nat, pr' k = s → s = i ∨ ∃ k2, k2 < n ∧ ¬ sn k2 = true ∧ pr k2 = s
  img2 : ∀ s : Nat, (s = i ∨ ∃ k2, k2 < n ∧ ¬ sn k2 = true ∧ pr k2 = s) → ∃ k, k < n ∧ ¬ sn k = true ∧ pr' k = s
  dead : ∀ D, Clo n E pr D → ∀ k, D k → pr' k = pr k
  alive : ∀ D, Clo n E pr D → ¬ ∀ k, k < n → E i k → D k
structure Mid (n : Nat) (E : Nat → Nat → Prop) (pr : Nat → Int) (sn : Nat → Bool) (i : Nat) (k0 : Nat) (sn1 : Nat → Bool) : Prop where
  ge : ∀ k, sn k = true → sn1 k = true
  all : ∀ k, k < k0 → k < n → E i k → sn1 k = true
  new : ∀ k, k < n → sn1 k = true → ¬ sn k = true → ∃ s : Nat, s < n ∧ pr k = s ∧ ∀ k', k' < n → E s k' → sn1 k' = true
theorem mid_start (pr : Nat → Int) (sn : Nat → Bool) (i : Nat) : Mid n E pr sn i 0 sn := ⟨fun _ h => h, fun k h => absurd h (Nat.not_lt_zero _), fun k _ h h' => absurd h h'⟩
theorem mid_skip {pr : Nat → Int} {sn sn1 : Nat → Bool} {i k : Nat} (h : Mid n E pr sn i k sn1) (hk : k < n → E i k → sn1 k = true) : Mid n E pr sn i (k + 1) sn1 :=
  ⟨h.ge, fun j hj hn he => by
    rcases Nat.lt_or_eq_of_le (Nat.le_of_lt_succ hj) with h4 | h4
    · exact h.all j h4 hn he
    · subst h4; exact hk hn he, h.new⟩
theorem mid_end {pr : Nat → Int} {sn sn1 : Nat → Bool} {i : Nat} (h : Mid n E pr sn i n sn1) : TryNo n E pr sn i sn1 := ⟨h.ge, fun k hk he => h.all k hk hk he, h.new⟩
theorem mid_free {pr : Nat → Int} {sn sn1 : Nat → Bool} {i k : Nat} (hp : Pre n E pr sn i) (h : Mid n E pr sn i k sn1) (hk : k < n) (he : E i k) (hs : ¬ sn1 k = true) (hf : pr k < 0) : TryYes n E pr sn i (put pr k i) := by
  have hsn : ¬ sn k = true := fun e => hs (h.ge k e)
  refine ⟨fun j hj => ?_, fun j hj => ?_, fun j j' hj hj' h1 h2 h0 e => ?_, fun j hj s e => ?_, fun j hj h1 s e => ?_, fun s hs' => ?_, fun D hD j hj => ?_, fun D hD hall => ?_⟩
  · exact put_ne _ _ fun e => by subst e; exact hsn hj
  · unfold put; by_cases e : j = k
    · rw [if_pos e]; exact .inr ⟨i, hp.lt, rfl⟩
    · rw [if_neg e]; exact hp.rng j hj
  · by_cases e1 : j = k <;> by_cases e2 : j' = k
    · rw [e1, e2]
    · rw [e1, put_same, put_ne _ _ e2] at e; exact absurd e.symm (hp.new j' hj' h2)
    · rw [e2, put_same, put_ne _ _ e1] at e; exact absurd e (hp.new j hj h1)
    · rw [put_ne _ _ e1] at e h0; rw [put_ne _ _ e2] at e
      exact hp.inj j j' hj hj' h1 h2 h0 e
  · by_cases e1 : j = k
    · subst e1; rw [put_same] at e
      have : s = i := by omega
      subst this; exact he
    · rw [put_ne _ _ e1] at e; exact hp.edge j hj s e
  · by_cases e1 : j = k
    · subst e1; rw [put_same] at e; exact .inl (by omega)
    · rw [put_ne _ _ e1] at e; exact .inr ⟨j, hj, h1, e⟩
  · rcases hs' with rfl | ⟨k2, h1, h2, h3⟩
    · exact ⟨k, hk, hsn, put_same ..⟩
    · exact ⟨k2, h1, h2, by rw [put_ne _ _ fun e => by subst e; omega]; exact h3⟩
  · exact put_ne _ _ fun e => by
      subst e
      obtain ⟨_, s, h1, _⟩ := hD j hj
      omega
  · obtain ⟨_, s, h1, _⟩ := hD k (hall k hk he)
    omega
theorem mid_pre {pr : Nat → Int} {sn sn1 : Nat → Bool} {i k s : Nat} (hp : Pre n E pr sn i) (h : Mid n E pr sn i k sn1) (hk : k < n) (hs : ¬ sn1 k = true) (hsn : s < n) (hf : pr k = s) : Pre n E pr (putB sn1 k) s := by
  have hsk : ¬ sn k = true := fun e => hs (h.ge k e)
  have hun : ∀ j, ¬ putB sn1 k j = true → ¬ sn j = true ∧ j ≠ k := fun j hj => ⟨fun e => (putB_not hj).1 (h.ge j e), (putB_not hj).2⟩
  refine ⟨hp.rng, fun j j' hj hj' h1 h2 => hp.inj j j' hj hj' (hun j h1).1 (hun j' h2).1, hp.edge, fun j hj h1 e => ?_, hsn⟩
  exact (hun j h1).2 (hp.inj j k hj hk (hun j h1).1 hsk (by omega) (by omega))
theorem mid_fail {pr : Nat → Int} {sn sn1 sn2 : Nat → Bool} {i k s : Nat} (h : Mid n E pr sn i k sn1) (hk : k < n) (hsn : s < n) (hf : pr k = s) (g : TryNo n E pr (putB sn1 k) s sn2) : Mid n E pr sn i (k + 1) sn2 := by
  refine ⟨fun j hj => g.ge j (putB_of (h.ge j hj)), fun j hj hn he => ?_, fun j hj h1 h2 => ?_⟩
  · rcases Nat.lt_or_eq_of_le (Nat.le_of_lt_succ hj) with h4 | h4
    · exact g.ge j (putB_of (h.all j h4 hn he))
    · subst h4; exact g.ge j (putB_same ..)
  · by_cases h3 : putB sn1 k j = true
    · by_cases e : j = k
      · subst e
        exact ⟨s, hsn, hf, fun k' hk' he => g.all k' hk' he⟩
      · rw [putB_ne _ e] at h3
        obtain ⟨s', h4, h5, h6⟩ := h.new j hj h3 h2
        exact ⟨s', h4, h5, fun k' hk' he => g.ge k' (putB_of (h6 k' hk' he))⟩
    · exact g.new j hj h1 h3
theorem mid_yes {pr pr1 : Nat → Int} {sn sn1 : Nat → Bool} {i k s : Nat} (hp : Pre n E pr sn i) (h : Mid n E pr sn i k sn1) (hk : k < n) (he : E i k) (hs : ¬ sn1 k = true) (hsn : s < n) (hf : pr k = s) (g : TryYes n E pr (putB sn1 k) s pr1) : TryYes n E pr sn i (put pr1 k i) := by
  have hsk : ¬ sn k = true := fun e => hs (h.ge k e)
  have hkD : ∀ D, Clo n E pr D → ¬ D k := fun D hD hk' => by
    obtain ⟨_, s', h1, h2⟩ := hD k hk'
    have : s' = s := by omega
    subst this
    exact g.alive D hD h2
  have himg : ∀ j, j < n → ¬ sn j = true → j ≠ k → ∀ v : Nat, pr1 j = v → ∃ k2, k2 < n ∧ ¬ sn k2 = true ∧ pr k2 = v ∧ (sn1 j = true → k2 = j) ∧ (¬ sn1 j = true → k2 = k ∨ ¬ sn1 k2 = true) := fun j hj h1 e1 v e => by
    by_cases h3 : sn1 j = true
    · exact ⟨j, hj, h1, by rw [← g.keep j (putB_of h3)]; exact e, fun _ => rfl, fun h => absurd h3 h⟩
    · have h4 : ¬ putB sn1 k j = true := by rw [putB_ne _ e1]; exact h3
      rcases g.img j hj h4 v e with h5 | ⟨k2, h5, h6, h7⟩
      · exact ⟨k, hk, hsk, by omega, fun h => absurd h h3, fun _ => .inl rfl⟩
      · exact ⟨k2, h5, fun e => h6 (putB_of (h.ge k2 e)), h7, fun h => absurd h h3, fun _ => .inr (putB_not h6).1⟩
  refine ⟨fun j hj => ?_, fun j hj => ?_, fun j j' hj hj' h1 h2 h0 e => ?_, fun j hj v e => ?_, fun j hj h1 v e => ?_, fun v hv => ?_, fun D hD j hj => ?_, fun D hD hall => ?_⟩
  · rw [put_ne _ _ fun e => by subst e; exact hsk hj]
    exact g.keep j (putB_of (h.ge j hj))
  · unfold put; by_cases e : j = k
    · rw [if_pos e]; exact .inr ⟨i, hp.lt, rfl⟩
    · rw [if_neg e]; exact g.rng j hj
  · by_cases e1 : j = k <;> by_cases e2 : j' = k
    · rw [e1, e2]
    · rw [e1, put_same, put_ne _ _ e2] at e
      obtain ⟨k2, h3, h4, h5, _⟩ := himg j' hj' h2 e2 i e.symm
      exact absurd h5 (hp.new k2 h3 h4)
    · rw [e2, put_same, put_ne _ _ e1] at e
      obtain ⟨k2, h3, h4, h5, _⟩ := himg j hj h1 e1 i e
      exact absurd h5 (hp.new k2 h3 h4)
    · rw [put_ne _ _ e1] at e h0; rw [put_ne _ _ e2] at e
      obtain ⟨v, hv, ev⟩ := (g.rng j hj).pos h0
      obtain ⟨a, a1, a2, a3, a4, a5⟩ := himg j hj h1 e1 v ev
      obtain ⟨b, b1, b2, b3, b4, b5⟩ := himg j' hj' h2 e2 v (by omega)
      have hab : a = b := hp.inj a b a1 b1 a2 b2 (by omega) (by omega)
      by_cases h3 : sn1 j = true <;> by_cases h4 : sn1 j' = true
      · rw [← a4 h3, ← b4 h4]; exact hab
      · have := a4 h3
        rcases b5 h4 with h5 | h5
        · exfalso; apply e1; rw [← this, hab]; exact h5
        · exact absurd h3 (by rw [← this, hab]; exact h5)
      · have := b4 h4
        rcases a5 h3 with h5 | h5
        · exfalso; apply e2; rw [← this, ← hab]; exact h5
        · exact absurd h4 (by rw [← this, ← hab]; exact h5)
      · exact g.inj j j' hj hj' (by rw [putB_ne _ e1]; exact h3) (by rw [putB_ne _ e2]; exact h4) h0 e
  · by_cases e1 : j = k
    · subst e1; rw [put_same] at e
      have : v = i := by omega
      subst this; exact he
    · rw [put_ne _ _ e1] at e; exact g.edge j hj v e
  · by_cases e1 : j = k
    · subst e1; rw [put_same] at e; exact .inl (by omega)
    · rw [put_ne _ _ e1] at e
      obtain ⟨k2, h3, h4, h5, _⟩ := himg j hj h1 e1 v e
      exact .inr ⟨k2, h3, h4, h5⟩
  · rcases hv with rfl | ⟨k2, h1, h2, h3⟩
    · exact ⟨k, hk, hsk, put_same ..⟩
    · by_cases h4 : putB sn1 k k2 = true
      · by_cases e : k2 = k
        · subst e
          obtain ⟨k3, h5, h6, h7⟩ := g.img2 v (.inl (by omega))
          exact ⟨k3, h5, fun e => h6 (putB_of (h.ge k3 e)), by rw [put_ne _ _ (putB_not h6).2]; exact h7⟩
        · exact ⟨k2, h1, h2, by rw [put_ne _ _ e, g.keep k2 h4]; exact h3⟩
      · obtain ⟨k3, h5, h6, h7⟩ := g.img2 v (.inr ⟨k2, h1, h4, h3⟩)
        exact ⟨k3, h5, fun e => h6 (putB_of (h.ge k3 e)), by rw [put_ne _ _ (putB_not h6).2]; exact h7⟩
  · have : j ≠ k := fun e => hkD D hD (e ▸ hj)
    rw [put_ne _ _ this]; exact g.dead D hD j hj
  · exact hkD D hD (hall k hk he)
structure RefO (n : Nat) (E : Nat → Nat → Prop) (pr : Nat → Int) (i : Nat) (F : List Nat) : Prop where
  rng : ∀ k, k < n → Pl n (pr k)
  inj : ∀ k k', k < n → k' < n → 0 ≤ pr k → pr k = pr k' → k = k'
  edge : ∀ k, k < n → ∀ s : Nat, pr k = s → E s k
  nodup : F.Nodup
  mem : ∀ s, s ∈ F ↔ s < i ∧ ∀ k, k < n → pr k ≠ (s : Int)
  lt : ∀ k, k < n → pr k < (i : Int)
  dead : ∃ D, Clo n E pr D ∧ ∀ s ∈ F, ∀ k, k < n → E s k → D k
theorem refO_start : RefO n E (fun _ => -1) 0 [] :=
  ⟨fun _ _ => .inl rfl, fun k k' _ _ h => absurd h (by decide), fun k hk s h => by
      have : (-1 : Int) = s := h
      omega, List.nodup_nil, fun s => ⟨fun h => (by cases h), fun h => absurd h.1 (Nat.not_lt_zero _)⟩, fun _ _ => (by show (-1 : Int) < 0; decide), fun _ => False, fun _ h => h.elim, fun _ h => (by cases h)⟩
theorem refO_pre {pr : Nat → Int} {i : Nat} {F : List Nat} (h : RefO n E pr i F) (hi : i < n) : Pre n E pr (fun _ => false) i :=
  ⟨h.rng, fun k k' hk hk' _ _ => h.inj k k' hk hk', h.edge, fun k hk _ e => by have := h.lt k hk; omega, hi⟩
theorem refO_yes {pr pr' : Nat → Int} {i : Nat} {F : List Nat} (h : RefO n E pr i F) (hi : i < n) (g : TryYes n E pr (fun _ => false) i pr') : RefO n E pr' (i + 1) F := by
  have hu : ∀ k : Nat, ¬ ((fun _ : Nat => false) k = true) := fun _ e => by cases e
  refine ⟨g.rng, fun k k' hk hk' => g.inj k k' hk hk' (hu k) (hu k'), g.edge, h.nodup, fun s => ?_, fun k hk => ?_, ?_⟩
  · rw [h.mem]
    constructor
    · rintro ⟨h1, h2⟩
      refine ⟨by omega, fun k hk e => ?_⟩
      rcases g.img k hk (hu k) s e with h3 | ⟨k2, h3, _, h4⟩
      · omega
      · exact h2 k2 h3 h4
    · rintro ⟨h1, h2⟩
      have hne : s ≠ i := fun e => by
        obtain ⟨k, hk, _, e2⟩ := g.img2 s (.inl e)
        exact h2 k hk e2
      refine ⟨by omega, fun k hk e => ?_⟩
      obtain ⟨k2, h3, _, h4⟩ := g.img2 s (.inr ⟨k, hk, hu k, e⟩)
      exact h2 k2 h3 h4
  · rcases g.rng k hk with e | ⟨s, hs, e⟩
    · omega
    · rcases g.img k hk (hu k) s e with h3 | ⟨k2, h3, _, h4⟩
      · omega
      · have := h.lt k2 h3; omega
  · obtain ⟨D, h1, h2⟩ := h.dead
    refine ⟨D, fun k hk => ?_, h2⟩
    obtain ⟨h3, s, h4, h5⟩ := h1 k hk
    exact ⟨h3, s, by rw [g.dead D h1 k hk]; exact h4, h5⟩
theorem refO_no {pr : Nat → Int} {sn' : Nat → Bool} {i : Nat} {F : List Nat} (h : RefO n E pr i F) (hi : i < n) (g : TryNo n E pr (fun _ => false) i sn') : RefO n E pr (i + 1) (F ++ [i]) := by
  have hu : ∀ k : Nat, ¬ ((fun _ : Nat => false) k = true) := fun _ e => by cases e
  have hiF : ∀ k, k < n → pr k ≠ i := fun k hk e => by have := h.lt k hk; omega
  refine ⟨h.rng, h.inj, h.edge, ?_, fun s => ?_, fun k hk => by have := h.lt k hk; omega, ?_⟩
  · rw [List.nodup_append]
    refine ⟨h.nodup, by simp, fun a ha b hb e => ?_⟩
    rw [List.mem_singleton] at hb
    have := ((h.mem a).1 ha).1
    omega
  · rw [List.mem_append, h.mem, List.mem_singleton]
    constructor
    · rintro (⟨h1, h2⟩ | rfl)
      · exact ⟨by omega, h2⟩
      · exact ⟨by omega, hiF⟩
    · rintro ⟨h1, h2⟩
      by_cases e : s = i
      · exact .inr e
      · exact .inl ⟨by omega, h2⟩
  · obtain ⟨D, h1, h2⟩ := h.dead
    refine ⟨fun k => D k ∨ (k < n ∧ sn' k = true), fun k hk => ?_, fun s hs k hk he => ?_⟩
    · rcases hk with hk | ⟨hk, hk'⟩
      · obtain ⟨h3, s, h4, h5⟩ := h1 k hk
        exact ⟨h3, s, h4, fun k' hk' he => .inl (h5 k' hk' he)⟩
      · obtain ⟨s, h3, h4, h5⟩ := g.new k hk hk' (hu k)
        exact ⟨hk, s, h4, fun k' hk'' he => .inr ⟨hk'', h5 k' hk'' he⟩⟩
    · rcases List.mem_append.1 hs with hs | hs
      · exact .inl (h2 s hs k hk he)
      · rw [List.mem_singleton] at hs
        subst hs
        exact .inr ⟨hk, g.all k hk he⟩
theorem refO_fin {pr : Nat → Int} {F : List Nat} (h : RefO n E pr n F) : ∃ D, Fin n E pr F D := by
  obtain ⟨D, h1, h2⟩ := h.dead
  refine ⟨D, h.inj, fun k hk h0 => ?_, h.nodup, h.mem, fun k hk => ?_, h2⟩
  · obtain ⟨s, hs, e⟩ := (h.rng k hk).pos h0
    rw [e]; exact ⟨hs, h.edge k hk s e⟩
  · obtain ⟨h3, s, h4, h5⟩ := h1 k hk
    exact ⟨h3, by omega, fun k' hk' he => h5 k' hk' (by rw [h4] at he; exact he)⟩
end
def uns (n : Nat) (sn : Nat → Bool) : Nat := ((List.range n).filter fun k => !sn k).length
theorem uns_le (n : Nat) (sn : Nat → Bool) : uns n sn ≤ n := by
  have := List.length_filter_le (fun k => !sn k) (List.range n)
  simpa [uns] using this
theorem uns_put {n : Nat} {sn : Nat → Bool} {k : Nat} (hk : k < n) (hb : ¬ sn k = true) : uns n (putB sn k) + 1 = uns n sn := by
  have hb' : sn k = false := by simpa using hb
  have h1 : (k :: (List.range n).filter fun j => !putB sn k j).Nodup := by
    rw [List.nodup_cons]
    refine ⟨fun h => ?_, List.Nodup.sublist List.filter_sublist List.nodup_range⟩
    have := (List.mem_filter.1 h).2
    rw [putB_same] at this
    cases this
  have h2 : ((List.range n).filter fun j => !sn j).Nodup := List.Nodup.sublist List.filter_sublist List.nodup_range
  have := eq_of_nodup h1 h2 fun x => by
    rw [List.mem_cons, List.mem_filter, List.mem_filter]
    simp only [List.mem_range]
    by_cases e : x = k
    · subst e; simp [hk, hb']
    · rw [putB_ne _ e]; simp [e]
  simpa [uns] using this
theorem uns_mono {n : Nat} {sn sn' : Nat → Bool} (h : ∀ k, sn k = true → sn' k = true) : uns n sn' ≤ uns n sn := by
  refine le_of_nodup (List.Nodup.sublist List.filter_sublist List.nodup_range) fun x hx => ?_
  obtain ⟨h1, h2⟩ := List.mem_filter.1 hx
  refine List.mem_filter.2 ⟨h1, ?_⟩
  cases h3 : sn x
  · rfl
  · rw [h x h3] at h2; exact h2
end Go.Proofs.YtcmllllbmgcnlaaGreat.Ch
end
