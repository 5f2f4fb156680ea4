/- Own texts, joined and cut to what the claim stands on: ChTryLaw, ChTry, ChNext. -/
import Derived.Deep.OwnRows
import Derived.Deep.QuietTactic
import Derived.Deep.LoopGhost
import Derived.Test.YtcmllllbmgcnlaaGreatU21
import Derived.Test.YtcmllllbmgcnlaaGreatU5
import Derived.Test.YtcmllllbmgcnlaaGreatU6
import Derived.Test.YtcmllllbmgcnlaaGreatU7
section
namespace Go.Proofs.YtcmllllbmgcnlaaGreat.Ch
set_option linter.unusedVariables false
set_option linter.unusedSimpArgs false
def putB (f : Nat → Bool) (i : Nat) : Nat → Bool := fun j => if j = i then true else f j
theorem putB_same (f : Nat → Bool) (i : Nat) : putB f i i = true := if_pos rfl
theorem putB_ne (f : Nat → Bool) {i j : Nat} (h : j ≠ i) : putB f i j = f j := if_neg h
theorem putB_of {f : Nat → Bool} {i j : Nat} (h : f j = true) : putB f i j = true := by
 unfold putB; by_cases e : j = i
 ·rw [if_pos e]
 ·rw [if_neg e]; exact h
theorem putB_not {f : Nat → Bool} {i j : Nat} (h : ¬ putB f i j = true) : ¬ f j = true ∧ j ≠ i := ⟨fun e => h (putB_of e), fun e => h (by rw [e]; exact putB_same ..)⟩
section
variable {n : Nat} {E : Nat → Nat → Prop}
def Clo (n : Nat) (E : Nat → Nat → Prop) (pr : Nat → Int) (D : Nat → Prop) : Prop := ∀ k, D k → k < n ∧ ∃ s : Nat, pr k = s ∧ ∀ k', k' < n → E s k' → D k'
structure Pre (n : Nat) (E : Nat → Nat → Prop) (pr : Nat → Int) (sn : Nat → Bool) (i : Nat) : Prop where
 rng : ∀ k, k < n → Pl n (pr k)
 inj : ∀ k k', k < n → k' < n → ¬ sn k = true → ¬ sn k' = true → 0 ≤ pr k → pr k = pr k' → k = k'
 edge : ∀ k, k < n → ∀ s : Nat, pr k = s → E s k
 new : ∀ k, k < n → ¬ sn k = true → pr k ≠ i
 lt : i < n
structure TryNo (n : Nat) (E : Nat → Nat → Prop) (pr : Nat → Int) (sn : Nat → Bool) (i : Nat) (sn' : Nat → Bool) : Prop where
 ge : ∀ k, sn k = true → sn' k = true
 all : ∀ k, k < n → E i k → sn' k = true
 new : ∀ k, k < n → sn' k = true → ¬ sn k = true → ∃ s : Nat, s < n ∧ pr k = s ∧ ∀ k', k' < n → E s k' → sn' k' = true
structure TryYes (n : Nat) (E : Nat → Nat → Prop) (pr : Nat → Int) (sn : Nat → Bool) (i : Nat) (pr' : Nat → Int) : Prop where
 keep : ∀ k, sn k = true → pr' k = pr k
 rng : ∀ k, k < n → Pl n (pr' k)
 inj : ∀ k k', k < n → k' < n → ¬ sn k = true → ¬ sn k' = true → 0 ≤ pr' k → pr' k = pr' k' → k = k'
 edge : ∀ k, k < n → ∀ s : Nat, pr' k = s → E s k
 img : ∀ k, k < n → ¬ sn k = true → ∀ s : Nat, pr' k = s → s = i ∨ ∃ k2, k2 < n ∧ ¬ sn k2 = true ∧ pr k2 = s
 img2 : ∀ s : Nat, (s = i ∨ ∃ k2, k2 < n ∧ ¬ sn k2 = true ∧ pr k2 = s) → ∃ k, k < n ∧ ¬ sn k = true ∧ pr' k = s
 dead : ∀ D, Clo n E pr D → ∀ k, D k → pr' k = pr k
 alive : ∀ D, Clo n E pr D → ¬ ∀ k, k < n → E i k → D k
structure Mid (n : Nat) (E : Nat → Nat → Prop) (pr : Nat → Int) (sn : Nat → Bool) (i : Nat) (k0 : Nat) (sn1 : Nat → Bool) : Prop where
 ge : ∀ k, sn k = true → sn1 k = true
 all : ∀ k, k < k0 → k < n → E i k → sn1 k = true
 new : ∀ k, k < n → sn1 k = true → ¬ sn k = true → ∃ s : Nat, s < n ∧ pr k = s ∧ ∀ k', k' < n → E s k' → sn1 k' = true
theorem mid_start (pr : Nat → Int) (sn : Nat → Bool) (i : Nat) : Mid n E pr sn i 0 sn := ⟨fun _ h => h, fun k h => absurd h (Nat.not_lt_zero _), fun k _ h h' => absurd h h'⟩
theorem mid_skip {pr : Nat → Int} {sn sn1 : Nat → Bool} {i k : Nat} (h : Mid n E pr sn i k sn1) (hk : k < n → E i k → sn1 k = true) : Mid n E pr sn i (k + 1) sn1 :=
 ⟨h.ge, fun j hj hn he => by
  rcases Nat.lt_or_eq_of_le (Nat.le_of_lt_succ hj) with h4 | h4
  ·exact h.all j h4 hn he
  ·subst h4; exact hk hn he, h.new⟩
theorem mid_end {pr : Nat → Int} {sn sn1 : Nat → Bool} {i : Nat} (h : Mid n E pr sn i n sn1) : TryNo n E pr sn i sn1 := ⟨h.ge, fun k hk he => h.all k hk hk he, h.new⟩
theorem mid_free {pr : Nat → Int} {sn sn1 : Nat → Bool} {i k : Nat} (hp : Pre n E pr sn i) (h : Mid n E pr sn i k sn1) (hk : k < n) (he : E i k) (hs : ¬ sn1 k = true) (hf : pr k < 0) : TryYes n E pr sn i (put pr k i) := by
 have hsn : ¬ sn k = true := fun e => hs (h.ge k e)
 refine ⟨fun j hj => ?_, fun j hj => ?_, fun j j' hj hj' h1 h2 h0 e => ?_, fun j hj s e => ?_, fun j hj h1 s e => ?_, fun s hs' => ?_, fun D hD j hj => ?_, fun D hD hall => ?_⟩
 ·exact put_ne _ _ fun e => by subst e; exact hsn hj
 ·unfold put; by_cases e : j = k
  ·rw [if_pos e]; exact .inr ⟨i, hp.lt, rfl⟩
  ·rw [if_neg e]; exact hp.rng j hj
 ·by_cases e1 : j = k <;> by_cases e2 : j' = k
  ·rw [e1, e2]
  ·rw [e1, put_same, put_ne _ _ e2] at e; exact absurd e.symm (hp.new j' hj' h2)
  ·rw [e2, put_same, put_ne _ _ e1] at e; exact absurd e (hp.new j hj h1)
  ·rw [put_ne _ _ e1] at e h0; rw [put_ne _ _ e2] at e
   exact hp.inj j j' hj hj' h1 h2 h0 e
 ·by_cases e1 : j = k
  ·subst e1; rw [put_same] at e
   have : s = i := by omega
   subst this; exact he
  ·rw [put_ne _ _ e1] at e; exact hp.edge j hj s e
 ·by_cases e1 : j = k
  ·subst e1; rw [put_same] at e; exact .inl (by omega)
  ·rw [put_ne _ _ e1] at e; exact .inr ⟨j, hj, h1, e⟩
 ·rcases hs' with rfl | ⟨k2, h1, h2, h3⟩
  ·exact ⟨k, hk, hsn, put_same ..⟩
  ·exact ⟨k2, h1, h2, by rw [put_ne _ _ fun e => by subst e; omega]; exact h3⟩
 ·exact put_ne _ _ fun e => by
   subst e
   obtain ⟨_, s, h1, _⟩ := hD j hj
   omega
 ·obtain ⟨_, s, h1, _⟩ := hD k (hall k hk he)
  omega
theorem mid_pre {pr : Nat → Int} {sn sn1 : Nat → Bool} {i k s : Nat} (hp : Pre n E pr sn i) (h : Mid n E pr sn i k sn1) (hk : k < n) (hs : ¬ sn1 k = true) (hsn : s < n) (hf : pr k = s) : Pre n E pr (putB sn1 k) s := by
 have hsk : ¬ sn k = true := fun e => hs (h.ge k e)
 have hun : ∀ j, ¬ putB sn1 k j = true → ¬ sn j = true ∧ j ≠ k := fun j hj => ⟨fun e => (putB_not hj).1 (h.ge j e), (putB_not hj).2⟩
 refine ⟨hp.rng, fun j j' hj hj' h1 h2 => hp.inj j j' hj hj' (hun j h1).1 (hun j' h2).1, hp.edge, fun j hj h1 e => ?_, hsn⟩
 exact (hun j h1).2 (hp.inj j k hj hk (hun j h1).1 hsk (by omega) (by omega))
theorem mid_fail {pr : Nat → Int} {sn sn1 sn2 : Nat → Bool} {i k s : Nat} (h : Mid n E pr sn i k sn1) (hk : k < n) (hsn : s < n) (hf : pr k = s) (g : TryNo n E pr (putB sn1 k) s sn2) : Mid n E pr sn i (k + 1) sn2 := by
 refine ⟨fun j hj => g.ge j (putB_of (h.ge j hj)), fun j hj hn he => ?_, fun j hj h1 h2 => ?_⟩
 ·rcases Nat.lt_or_eq_of_le (Nat.le_of_lt_succ hj) with h4 | h4
  ·exact g.ge j (putB_of (h.all j h4 hn he))
  ·subst h4; exact g.ge j (putB_same ..)
 ·by_cases h3 : putB sn1 k j = true
  ·by_cases e : j = k
   ·subst e
    exact ⟨s, hsn, hf, fun k' hk' he => g.all k' hk' he⟩
   ·rw [putB_ne _ e] at h3
    obtain ⟨s', h4, h5, h6⟩ := h.new j hj h3 h2
    exact ⟨s', h4, h5, fun k' hk' he => g.ge k' (putB_of (h6 k' hk' he))⟩
  ·exact g.new j hj h1 h3
theorem mid_yes {pr pr1 : Nat → Int} {sn sn1 : Nat → Bool} {i k s : Nat} (hp : Pre n E pr sn i) (h : Mid n E pr sn i k sn1) (hk : k < n) (he : E i k) (hs : ¬ sn1 k = true) (hsn : s < n) (hf : pr k = s) (g : TryYes n E pr (putB sn1 k) s pr1) : TryYes n E pr sn i (put pr1 k i) := by
 have hsk : ¬ sn k = true := fun e => hs (h.ge k e)
 have hkD : ∀ D, Clo n E pr D → ¬ D k := fun D hD hk' => by
  obtain ⟨_, s', h1, h2⟩ := hD k hk'
  have : s' = s := by omega
  subst this
  exact g.alive D hD h2
 have himg : ∀ j, j < n → ¬ sn j = true → j ≠ k → ∀ v : Nat, pr1 j = v → ∃ k2, k2 < n ∧ ¬ sn k2 = true ∧ pr k2 = v ∧ (sn1 j = true → k2 = j) ∧ (¬ sn1 j = true → k2 = k ∨ ¬ sn1 k2 = true) := fun j hj h1 e1 v e => by
  by_cases h3 : sn1 j = true
  ·exact ⟨j, hj, h1, by rw [← g.keep j (putB_of h3)]; exact e, fun _ => rfl, fun h => absurd h3 h⟩
  ·have h4 : ¬ putB sn1 k j = true := by rw [putB_ne _ e1]; exact h3
   rcases g.img j hj h4 v e with h5 | ⟨k2, h5, h6, h7⟩
   ·exact ⟨k, hk, hsk, by omega, fun h => absurd h h3, fun _ => .inl rfl⟩
   ·exact ⟨k2, h5, fun e => h6 (putB_of (h.ge k2 e)), h7, fun h => absurd h h3, fun _ => .inr (putB_not h6).1⟩
 refine ⟨fun j hj => ?_, fun j hj => ?_, fun j j' hj hj' h1 h2 h0 e => ?_, fun j hj v e => ?_, fun j hj h1 v e => ?_, fun v hv => ?_, fun D hD j hj => ?_, fun D hD hall => ?_⟩
 ·rw [put_ne _ _ fun e => by subst e; exact hsk hj]
  exact g.keep j (putB_of (h.ge j hj))
 ·unfold put; by_cases e : j = k
  ·rw [if_pos e]; exact .inr ⟨i, hp.lt, rfl⟩
  ·rw [if_neg e]; exact g.rng j hj
 ·by_cases e1 : j = k <;> by_cases e2 : j' = k
  ·rw [e1, e2]
  ·rw [e1, put_same, put_ne _ _ e2] at e
   obtain ⟨k2, h3, h4, h5, _⟩ := himg j' hj' h2 e2 i e.symm
   exact absurd h5 (hp.new k2 h3 h4)
  ·rw [e2, put_same, put_ne _ _ e1] at e
   obtain ⟨k2, h3, h4, h5, _⟩ := himg j hj h1 e1 i e
   exact absurd h5 (hp.new k2 h3 h4)
  ·rw [put_ne _ _ e1] at e h0; rw [put_ne _ _ e2] at e
   obtain ⟨v, hv, ev⟩ := (g.rng j hj).pos h0
   obtain ⟨a, a1, a2, a3, a4, a5⟩ := himg j hj h1 e1 v ev
   obtain ⟨b, b1, b2, b3, b4, b5⟩ := himg j' hj' h2 e2 v (by omega)
   have hab : a = b := hp.inj a b a1 b1 a2 b2 (by omega) (by omega)
   by_cases h3 : sn1 j = true <;> by_cases h4 : sn1 j' = true
   ·rw [← a4 h3, ← b4 h4]; exact hab
   ·have := a4 h3
    rcases b5 h4 with h5 | h5
    ·exfalso; apply e1; rw [← this, hab]; exact h5
    ·exact absurd h3 (by rw [← this, hab]; exact h5)
   ·have := b4 h4
    rcases a5 h3 with h5 | h5
    ·exfalso; apply e2; rw [← this, ← hab]; exact h5
    ·exact absurd h4 (by rw [← this, ← hab]; exact h5)
   ·exact g.inj j j' hj hj' (by rw [putB_ne _ e1]; exact h3) (by rw [putB_ne _ e2]; exact h4) h0 e
 ·by_cases e1 : j = k
  ·subst e1; rw [put_same] at e
   have : v = i := by omega
   subst this; exact he
  ·rw [put_ne _ _ e1] at e; exact g.edge j hj v e
 ·by_cases e1 : j = k
  ·subst e1; rw [put_same] at e; exact .inl (by omega)
  ·rw [put_ne _ _ e1] at e
   obtain ⟨k2, h3, h4, h5, _⟩ := himg j hj h1 e1 v e
   exact .inr ⟨k2, h3, h4, h5⟩
 ·rcases hv with rfl | ⟨k2, h1, h2, h3⟩
  ·exact ⟨k, hk, hsk, put_same ..⟩
  ·by_cases h4 : putB sn1 k k2 = true
   ·by_cases e : k2 = k
    ·subst e
     obtain ⟨k3, h5, h6, h7⟩ := g.img2 v (.inl (by omega))
     exact ⟨k3, h5, fun e => h6 (putB_of (h.ge k3 e)), by rw [put_ne _ _ (putB_not h6).2]; exact h7⟩
    ·exact ⟨k2, h1, h2, by rw [put_ne _ _ e, g.keep k2 h4]; exact h3⟩
   ·obtain ⟨k3, h5, h6, h7⟩ := g.img2 v (.inr ⟨k2, h1, h4, h3⟩)
    exact ⟨k3, h5, fun e => h6 (putB_of (h.ge k3 e)), by rw [put_ne _ _ (putB_not h6).2]; exact h7⟩
 ·have : j ≠ k := fun e => hkD D hD (e ▸ hj)
  rw [put_ne _ _ this]; exact g.dead D hD j hj
 ·exact hkD D hD (hall k hk he)
structure RefO (n : Nat) (E : Nat → Nat → Prop) (pr : Nat → Int) (i : Nat) (F : List Nat) : Prop where
 rng : ∀ k, k < n → Pl n (pr k)
 inj : ∀ k k', k < n → k' < n → 0 ≤ pr k → pr k = pr k' → k = k'
 edge : ∀ k, k < n → ∀ s : Nat, pr k = s → E s k
 nodup : F.Nodup
 mem : ∀ s, s ∈ F ↔ s < i ∧ ∀ k, k < n → pr k ≠ (s : Int)
 lt : ∀ k, k < n → pr k < (i : Int)
 dead : ∃ D, Clo n E pr D ∧ ∀ s ∈ F, ∀ k, k < n → E s k → D k
theorem refO_start : RefO n E (fun _ => -1) 0 [] :=
 ⟨fun _ _ => .inl rfl, fun k k' _ _ h => absurd h (by decide), fun k hk s h => by
   have : (-1 : Int) = s := h
   omega, List.nodup_nil, fun s => ⟨fun h => (by cases h), fun h => absurd h.1 (Nat.not_lt_zero _)⟩, fun _ _ => (by show (-1 : Int) < 0; decide), fun _ => False, fun _ h => h.elim, fun _ h => (by cases h)⟩
theorem refO_pre {pr : Nat → Int} {i : Nat} {F : List Nat} (h : RefO n E pr i F) (hi : i < n) : Pre n E pr (fun _ => false) i :=
 ⟨h.rng, fun k k' hk hk' _ _ => h.inj k k' hk hk', h.edge, fun k hk _ e => by have := h.lt k hk; omega, hi⟩
theorem refO_yes {pr pr' : Nat → Int} {i : Nat} {F : List Nat} (h : RefO n E pr i F) (hi : i < n) (g : TryYes n E pr (fun _ => false) i pr') : RefO n E pr' (i + 1) F := by
 have hu : ∀ k : Nat, ¬ ((fun _ : Nat => false) k = true) := fun _ e => by cases e
 refine ⟨g.rng, fun k k' hk hk' => g.inj k k' hk hk' (hu k) (hu k'), g.edge, h.nodup, fun s => ?_, fun k hk => ?_, ?_⟩
 ·rw [h.mem]
  constructor
  ·rintro ⟨h1, h2⟩
   refine ⟨by omega, fun k hk e => ?_⟩
   rcases g.img k hk (hu k) s e with h3 | ⟨k2, h3, _, h4⟩
   ·omega
   ·exact h2 k2 h3 h4
  ·rintro ⟨h1, h2⟩
   have hne : s ≠ i := fun e => by
    obtain ⟨k, hk, _, e2⟩ := g.img2 s (.inl e)
    exact h2 k hk e2
   refine ⟨by omega, fun k hk e => ?_⟩
   obtain ⟨k2, h3, _, h4⟩ := g.img2 s (.inr ⟨k, hk, hu k, e⟩)
   exact h2 k2 h3 h4
 ·rcases g.rng k hk with e | ⟨s, hs, e⟩
  ·omega
  ·rcases g.img k hk (hu k) s e with h3 | ⟨k2, h3, _, h4⟩
   ·omega
   ·have := h.lt k2 h3; omega
 ·obtain ⟨D, h1, h2⟩ := h.dead
  refine ⟨D, fun k hk => ?_, h2⟩
  obtain ⟨h3, s, h4, h5⟩ := h1 k hk
  exact ⟨h3, s, by rw [g.dead D h1 k hk]; exact h4, h5⟩
theorem refO_no {pr : Nat → Int} {sn' : Nat → Bool} {i : Nat} {F : List Nat} (h : RefO n E pr i F) (hi : i < n) (g : TryNo n E pr (fun _ => false) i sn') : RefO n E pr (i + 1) (F ++ [i]) := by
 have hu : ∀ k : Nat, ¬ ((fun _ : Nat => false) k = true) := fun _ e => by cases e
 have hiF : ∀ k, k < n → pr k ≠ i := fun k hk e => by have := h.lt k hk; omega
 refine ⟨h.rng, h.inj, h.edge, ?_, fun s => ?_, fun k hk => by have := h.lt k hk; omega, ?_⟩
 ·rw [List.nodup_append]
  refine ⟨h.nodup, by simp, fun a ha b hb e => ?_⟩
  rw [List.mem_singleton] at hb
  have := ((h.mem a).1 ha).1
  omega
 ·rw [List.mem_append, h.mem, List.mem_singleton]
  constructor
  ·rintro (⟨h1, h2⟩ | rfl)
   ·exact ⟨by omega, h2⟩
   ·exact ⟨by omega, hiF⟩
  ·rintro ⟨h1, h2⟩
   by_cases e : s = i
   ·exact .inr e
   ·exact .inl ⟨by omega, h2⟩
 ·obtain ⟨D, h1, h2⟩ := h.dead
  refine ⟨fun k => D k ∨ (k < n ∧ sn' k = true), fun k hk => ?_, fun s hs k hk he => ?_⟩
  ·rcases hk with hk | ⟨hk, hk'⟩
   ·obtain ⟨h3, s, h4, h5⟩ := h1 k hk
    exact ⟨h3, s, h4, fun k' hk' he => .inl (h5 k' hk' he)⟩
   ·obtain ⟨s, h3, h4, h5⟩ := g.new k hk hk' (hu k)
    exact ⟨hk, s, h4, fun k' hk'' he => .inr ⟨hk'', h5 k' hk'' he⟩⟩
  ·rcases List.mem_append.1 hs with hs | hs
   ·exact .inl (h2 s hs k hk he)
   ·rw [List.mem_singleton] at hs
    subst hs
    exact .inr ⟨hk, g.all k hk he⟩
theorem refO_fin {pr : Nat → Int} {F : List Nat} (h : RefO n E pr n F) : ∃ D, Fin n E pr F D := by
 obtain ⟨D, h1, h2⟩ := h.dead
 refine ⟨D, h.inj, fun k hk h0 => ?_, h.nodup, h.mem, fun k hk => ?_, h2⟩
 ·obtain ⟨s, hs, e⟩ := (h.rng k hk).pos h0
  rw [e]; exact ⟨hs, h.edge k hk s e⟩
 ·obtain ⟨h3, s, h4, h5⟩ := h1 k hk
  exact ⟨h3, by omega, fun k' hk' he => h5 k' hk' (by rw [h4] at he; exact he)⟩
end
def uns (n : Nat) (sn : Nat → Bool) : Nat := ((List.range n).filter fun k => !sn k).length
theorem uns_le (n : Nat) (sn : Nat → Bool) : uns n sn ≤ n := by
 have := List.length_filter_le (fun k => !sn k) (List.range n)
 simpa [uns] using this
theorem uns_put {n : Nat} {sn : Nat → Bool} {k : Nat} (hk : k < n) (hb : ¬ sn k = true) : uns n (putB sn k) + 1 = uns n sn := by
 have hb' : sn k = false := by simpa using hb
 have h1 : (k :: (List.range n).filter fun j => !putB sn k j).Nodup := by
  rw [List.nodup_cons]
  refine ⟨fun h => ?_, List.Nodup.sublist List.filter_sublist List.nodup_range⟩
  have := (List.mem_filter.1 h).2
  rw [putB_same] at this
  cases this
 have h2 : ((List.range n).filter fun j => !sn j).Nodup := List.Nodup.sublist List.filter_sublist List.nodup_range
 have := eq_of_nodup h1 h2 fun x => by
  rw [List.mem_cons, List.mem_filter, List.mem_filter]
  simp only [List.mem_range]
  by_cases e : x = k
  ·subst e; simp [hk, hb']
  ·rw [putB_ne _ e]; simp [e]
 simpa [uns] using this
theorem uns_mono {n : Nat} {sn sn' : Nat → Bool} (h : ∀ k, sn k = true → sn' k = true) : uns n sn' ≤ uns n sn := by
 refine le_of_nodup (List.Nodup.sublist List.filter_sublist List.nodup_range) fun x hx => ?_
 obtain ⟨h1, h2⟩ := List.mem_filter.1 hx
 refine List.mem_filter.2 ⟨h1, ?_⟩
 cases h3 : sn x
 ·rfl
 ·rw [h x h3] at h2; exact h2
end Go.Proofs.YtcmllllbmgcnlaaGreat.Ch
end
section
namespace Go.Proofs.YtcmllllbmgcnlaaGreat.Ch
open Go.RowKit Go.Deep Go.Proofs.YtcmllllbmgcnlaaGreat.G Go.Proofs.YtcmllllbmgcnlaaGreatW.PrintWords Go.Proofs.YtcmllllbmgcnlaaGreatW.PrintLast Go.Proofs.YtcmllllbmgcnlaaGreatW.PrintMore
set_option linter.unusedVariables false
set_option linter.unusedSimpArgs false
def Ed (lv : Nat → Int) (s k : Nat) : Prop := k ≠ s ∧ Go.bits .and .i64 (lv s) (lv k) = lv s
structure MW (n : Nat) (A : Option Addr) (c ba oa b bp bs : Nat) (lv : Nat → Int) (w : World) (pr : Nat → Int) (sn : Nat → Bool) : Prop where
 c0 : w.cell? ⟨b, 0, none⟩ = some (.slice A n c)
 c1 : w.cell? ⟨b, 1, none⟩ = some (.slice (some ⟨bp, 0, none⟩) n n)
 c2 : w.cell? ⟨b, 2, none⟩ = some (.slice (some ⟨bs, 0, none⟩) n n)
 rp : w.rowIs bp 3 n (fun k => .int .i64 (pr k))
 rs : w.rowIs bs 4 n (fun k => .bool (sn k))
 la : ∀ k, k < n → A = some ⟨ba, oa, none⟩ ∧ w.cell? ⟨ba, oa + k, none⟩ = some (.int .i64 (lv k))
 nps : bp ≠ bs
 nb : b ≠ bp ∧ b ≠ bs
 na : 0 < n → ba ≠ bp ∧ ba ≠ bs
structure Two2 (bp bs : Nat) (w w' : World) : Prop where
 os : w'.os = w.os
 tape : w'.tape = w.tape
 output : w'.output = w.output
 size : w'.heap.size = w.heap.size
 block : ∀ k, k ≠ bp → k ≠ bs → w'.heap[k]? = w.heap[k]?
namespace Two2
variable {bp bs : Nat} {w w' w'' : World}
theorem refl (bp bs : Nat) (w : World) : Two2 bp bs w w := ⟨rfl, rfl, rfl, rfl, fun _ _ _ => rfl⟩
theorem trans (h : Two2 bp bs w w') (k : Two2 bp bs w' w'') : Two2 bp bs w w'' := ⟨k.os.trans h.os, k.tape.trans h.tape, k.output.trans h.output, k.size.trans h.size, fun j h1 h2 => (k.block j h1 h2).trans (h.block j h1 h2)⟩
theorem drewN (h : Two2 bp bs w w') (m : Nat) : Two2 bp bs w (w'.drewN m) := ⟨h.os, h.tape, h.output, h.size, h.block⟩
theorem set (h : Two2 bp bs w w') {a : Addr} (ha : a.block = bp ∨ a.block = bs) (v : Value) : Two2 bp bs w (w'.setCell a v) :=
 ⟨h.os, h.tape, h.output, by simp [h.size], fun k h1 h2 => (blk_setCell_other _ _ _ _ (by rcases ha with ha | ha <;> omega)).trans (h.block k h1 h2)⟩
end Two2
section
variable {n : Nat} {A : Option Addr} {c ba oa b bp bs : Nat} {lv : Nat → Int} {w w' : World} {pr : Nat → Int} {sn : Nat → Bool}
theorem MW.drewN (h : MW n A c ba oa b bp bs lv w pr sn) (m : Nat) : MW n A c ba oa b bp bs lv (w.drewN m) pr sn := ⟨h.c0, h.c1, h.c2, h.rp, h.rs, h.la, h.nps, h.nb, h.na⟩
theorem cell_ne (w : World) {a a' : Addr} (v : Value) (h : a.block ≠ a'.block) : (w.setCell a' v).cell? a = w.cell? a := World.cell?_of_block (blk_setCell_other _ _ _ _ h)
theorem MW.see (h : MW n A c ba oa b bp bs lv w pr sn) (k : Nat) : MW n A c ba oa b bp bs lv (w.setCell ⟨bs, k, none⟩ (.bool true)) pr (putB sn k) :=
 ⟨by rw [cell_ne _ _ h.nb.2]; exact h.c0, by rw [cell_ne _ _ h.nb.2]; exact h.c1, by rw [cell_ne _ _ h.nb.2]; exact h.c2, h.rp.setOther h.nps _,
  (h.rs.set k _).congr (fun j _ => by unfold putB; by_cases e : j = k <;> simp [e]), fun j hj => ⟨(h.la j hj).1, by rw [cell_ne _ _ (h.na (by omega)).2]; exact (h.la j hj).2⟩, h.nps, h.nb, h.na⟩
theorem MW.give (h : MW n A c ba oa b bp bs lv w pr sn) (k : Nat) (i : Nat) : MW n A c ba oa b bp bs lv (w.setCell ⟨bp, k, none⟩ (.int .i64 i)) (put pr k i) sn :=
 ⟨by rw [cell_ne _ _ h.nb.1]; exact h.c0, by rw [cell_ne _ _ h.nb.1]; exact h.c1, by rw [cell_ne _ _ h.nb.1]; exact h.c2, (h.rp.set k _).congr (fun j _ => by unfold put; by_cases e : j = k <;> simp [e]),
  h.rs.setOther h.nps.symm _, fun j hj => ⟨(h.la j hj).1, by rw [cell_ne _ _ (h.na (by omega)).1]; exact (h.la j hj).2⟩, h.nps, h.nb, h.na⟩
end
def TryR (n : Nat) (A : Option Addr) (c ba oa b bp bs : Nat) (lv : Nat → Int) (w : World) (pr : Nat → Int) (sn : Nat → Bool) (i : Nat) (e : Ending) (w' : World) : Prop :=
 ∃ res pr' sn', e = .returned (.bool res) ∧ MW n A c ba oa b bp bs lv w' pr' sn' ∧ Two2 bp bs w w' ∧ (res = false → pr' = pr ∧ TryNo n (Ed lv) pr sn i sn') ∧ (res = true → TryYes n (Ed lv) pr sn i pr')
set_option maxHeartbeats 4000000 in
set_option maxRecDepth 100000 in
theorem try_calls (n : Nat) (A : Option Addr) (c ba oa b bp bs : Nat) (lv : Nat → Int) (hn : n ≤ 4096) : ∀ (u : Nat) (w : World) (pr : Nat → Int) (sn : Nat → Bool) (i : Nat), uns n sn < u → MW n A c ba oa b bp bs lv w pr sn → Pre n (Ed lv) pr sn i →
  Calls Tryz.prog 99 #[.pointer (some ⟨b, 0, none⟩), .int .i64 i] w (TryR n A c ba oa b bp bs lv w pr sn i) := by
 intro u
 induction u with
 | zero => intro w pr sn i h; omega
 | succ u ih =>
 intro w pr sn i hu hm hp
 have IH := Aside0.mk ih
 have HP := Aside0.mk hp
 have hi : i < n := hp.lt
 clear ih hp
 have H0 : Aside0 (MW n A c ba oa b bp bs lv w pr sn) := ⟨hm⟩
 clear hm
 have HU := Aside0.mk hu
 clear hu
 go_enter Tryz.func99, Tryz.ntmps99
 go_wp2_with fail
 go_loopg [5] n (fun gk v5 wr => ∃ (k : Nat) (sn1 : Nat → Bool), v5 = .int .i64 (k : Int) ∧ Aside0 (k + gk = n) ∧ Aside0 (MW n A c ba oa b bp bs lv wr pr sn1) ∧ Aside0 (Mid n (Ed lv) pr sn i k sn1) ∧ Aside0 (Two2 bp bs w wr))
 case atStart => exact ⟨0, sn, rfl, ⟨by omega⟩, H0, ⟨mid_start pr sn i⟩, ⟨Two2.refl _ _ _⟩⟩
 case round =>
  obtain ⟨k, sn1, rfl, HI, HM, HD, HT⟩ := hrel
  have h0 := HM.out.c0
  by_cases hk : k < n
  ·have hkd : decide (k < n) = true := decide_eq_true hk
   have hki : (k : Int) < (n : Int) := by omega
   have hii : (i : Int) < (n : Int) := by omega
   have h1 := HM.out.c1
   have h2 := HM.out.c2
   obtain ⟨rfl, hli⟩ := HM.out.la i hi
   have hlk := (HM.out.la k hk).2
   have hpk := HM.out.rp.cell hk
   have hsk := HM.out.rs.cell hk
   have hfs := HM.out.rs.frozen k
   have hfp := HM.out.rp.frozen k
   obtain ⟨x, hx⟩ : ∃ x, x = lv i := ⟨_, rfl⟩
   obtain ⟨y, hy⟩ : ∃ y, y = lv k := ⟨_, rfl⟩
   rw [← hx] at hli
   rw [← hy] at hlk
   have HXY := Aside0.mk (And.intro hx hy)
   clear hx hy
   by_cases hkeq : k = i
   ·have e1 : ((k : Int) == (i : Int)) = true := beq_iff_eq.2 (by omega)
    go_wp2_with fail
    go_quiet (fail)
    go_wp2
    obtain ⟨g2, hg2⟩ : ∃ g2, g2 = gk - 1 := ⟨_, rfl⟩
    go_roundg g2
    case measure => have := HI.out; omega
    case rel => exact ⟨k + 1, sn1, by go_num, ⟨by have := HI.out; omega⟩, by first | exact ⟨HM.out⟩ | exact ⟨HM.out.drew⟩ | exact ⟨HM.out.drewN _⟩, ⟨mid_skip HD.out fun _ he => absurd hkeq he.1⟩, by first | exact ⟨HT.out⟩ | exact ⟨HT.out.drew⟩ | exact ⟨HT.out.drewN _⟩⟩
   ·have e1 : ((k : Int) == (i : Int)) = false := beq_eq_false_iff_ne.2 (by omega)
    by_cases hE : Go.bits .and .i64 x y = x
    ·have e2 : (Go.bits .and .i64 x y != x) = false := by rw [hE]; simp
     have HEd : Aside0 (Ed lv i k) := ⟨⟨hkeq, by rw [← HXY.out.1, ← HXY.out.2]; exact hE⟩⟩
     clear hE
     by_cases hS : sn1 k = true
     ·rw [hS] at hsk
      go_wp2_with fail
      go_quiet (fail)
      go_wp2
      obtain ⟨g2, hg2⟩ : ∃ g2, g2 = gk - 1 := ⟨_, rfl⟩
      go_roundg g2
      case measure => have := HI.out; omega
      case rel => exact ⟨k + 1, sn1, by go_num, ⟨by have := HI.out; omega⟩, by first | exact ⟨HM.out⟩ | exact ⟨HM.out.drew⟩ | exact ⟨HM.out.drewN _⟩, ⟨mid_skip HD.out fun _ he => hS⟩, by first | exact ⟨HT.out⟩ | exact ⟨HT.out.drew⟩ | exact ⟨HT.out.drewN _⟩⟩
     ·have hS' : sn1 k = false := by simpa using hS
      rw [hS'] at hsk
      have HS : Aside0 (¬ sn1 k = true) := ⟨hS⟩
      have HM1 : Aside0 (∀ m, MW n (some ⟨ba, oa, none⟩) c ba oa b bp bs lv ((wr.drewN m).setCell ⟨bs, k, none⟩ (.bool true)) pr (putB sn1 k)) := ⟨fun m => (HM.out.drewN m).see k⟩
      have k0 : ∀ m, ((wr.drewN m).setCell ⟨bs, k, none⟩ (.bool true)).cell? ⟨b, 0, none⟩ = some (.slice (some ⟨ba, oa, none⟩) n c) := fun m => (HM1.out m).c0
      have k1 : ∀ m, ((wr.drewN m).setCell ⟨bs, k, none⟩ (.bool true)).cell? ⟨b, 1, none⟩ = some (.slice (some ⟨bp, 0, none⟩) n n) := fun m => (HM1.out m).c1
      have k2 : ∀ m, ((wr.drewN m).setCell ⟨bs, k, none⟩ (.bool true)).cell? ⟨bp, k, none⟩ = some (.int .i64 (pr k)) := fun m => (HM1.out m).rp.cell hk
      have k3 : ∀ m, ((wr.drewN m).setCell ⟨bs, k, none⟩ (.bool true)).frozen? ⟨bp, k, none⟩ = false := fun m => (HM1.out m).rp.frozen k
      have HHK := Aside0.mk hk
      by_cases hP : pr k < 0
      ·have hPd : decide (pr k < 0) = true := decide_eq_true hP
       clear hkeq hS hS'
       go_wp2_with fail
       go_quiet (fail)
       go_wp2
       go_ret
       exact ⟨true, put pr k i, putB sn1 k, rfl, (HM1.out _).give k i, ((HT.out.drewN _).set (.inr rfl) _).set (.inl rfl) _, fun h => (by cases h), fun _ => mid_free HP.out HD.out HHK.out HEd.out HS.out hP⟩
      ·have hPd : decide (pr k < 0) = false := decide_eq_false hP
       obtain ⟨s, hsn, hse⟩ := (HP.out.rng k hk).pos (by omega)
       have HC : Aside0 (∀ m, Calls Tryz.prog 99 #[.pointer (some ⟨b, 0, none⟩), .int .i64 (pr k)] ((wr.drewN m).setCell ⟨bs, k, none⟩ (.bool true)) (TryR n (some ⟨ba, oa, none⟩) c ba oa b bp bs lv ((wr.drewN m).setCell ⟨bs, k, none⟩ (.bool true)) pr (putB sn1 k) s)) := ⟨fun m => by
        rw [hse]
        refine IH.out _ pr (putB sn1 k) s ?_ (HM1.out m) (mid_pre HP.out HD.out HHK.out HS.out hsn hse)
        have := uns_put (n := n) hk HS.out
        have := uns_mono (n := n) HD.out.ge
        have := HU.out
        omega⟩
       have HSE := Aside0.mk (And.intro hsn hse)
       clear hkeq hS hS' hsn hse
       go_wp2_with fail
       go_quiet (fail)
       go_wp2_with (first
        | (go_at_call 99; refine (HC.out _).mono ?_; clear k0 k1 k2 k3; rintro e w2 ⟨res, pr1, sn2, rfl, hm2, ht2, hno, hyes⟩; have HM2 := Aside0.mk hm2; have HT2 := Aside0.mk ht2; have HNO := Aside0.mk hno; have HYES := Aside0.mk hyes; clear hm2 ht2 hno hyes; have j0 := HM2.out.c0; have j1 := HM2.out.c1; have j2 := HM2.out.rp.cell HHK.out; have j3 := HM2.out.rp.frozen k; cases res))
       ·have hno := HNO.out trivial
        obtain ⟨hpr, hno⟩ := hno
        subst hpr
        obtain ⟨g2, hg2⟩ : ∃ g2, g2 = gk - 1 := ⟨_, rfl⟩
        go_roundg g2
        case measure => have := HI.out; omega
        case rel => exact ⟨k + 1, sn2, by go_num, ⟨by have := HI.out; omega⟩, ⟨HM2.out⟩, ⟨mid_fail HD.out HHK.out HSE.out.1 HSE.out.2 hno⟩, ⟨((HT.out.drewN _).set (.inr rfl) _).trans HT2.out⟩⟩
       ·go_ret
        exact ⟨true, put pr1 k i, sn2, rfl, HM2.out.give k i, (((HT.out.drewN _).set (.inr rfl) _).trans HT2.out).set (.inl rfl) _, fun h => (by cases h), fun _ => mid_yes HP.out HD.out HHK.out HEd.out HS.out HSE.out.1 HSE.out.2 (HYES.out trivial)⟩
    ·have e2 : (Go.bits .and .i64 x y != x) = true := bne_iff_ne.2 hE
     have HE := Aside0.mk hE
     clear hE
     go_wp2_with fail
     go_quiet (fail)
     go_wp2
     obtain ⟨g2, hg2⟩ : ∃ g2, g2 = gk - 1 := ⟨_, rfl⟩
     go_roundg g2
     case measure => have := HI.out; omega
     case rel => exact ⟨k + 1, sn1, by go_num, ⟨by have := HI.out; omega⟩, by first | exact ⟨HM.out⟩ | exact ⟨HM.out.drew⟩ | exact ⟨HM.out.drewN _⟩, ⟨mid_skip HD.out fun _ he => absurd he.2 (by rw [← HXY.out.1, ← HXY.out.2]; exact HE.out)⟩, by first | exact ⟨HT.out⟩ | exact ⟨HT.out.drew⟩ | exact ⟨HT.out.drewN _⟩⟩
  ·have hid : decide (k < n) = false := decide_eq_false hk
   go_wp2_with fail
   go_ret
   have hkn : k = n := by have := HI.out; omega
   subst hkn
   exact ⟨false, pr, sn1, rfl, HM.out, HT.out, fun _ => ⟨rfl, mid_end HD.out⟩, fun h => (by cases h)⟩
end Go.Proofs.YtcmllllbmgcnlaaGreat.Ch
end
section
namespace Go.Proofs.YtcmllllbmgcnlaaGreat.Ch
open Go.RowKit Go.Deep Go.Proofs.YtcmllllbmgcnlaaGreat.G Go.Proofs.YtcmllllbmgcnlaaGreat.Tup Go.Proofs.YtcmllllbmgcnlaaGreatW.PrintWords Go.Proofs.YtcmllllbmgcnlaaGreatW.PrintLast Go.Proofs.YtcmllllbmgcnlaaGreatW.PrintMore
set_option linter.unusedVariables false
set_option linter.unusedSimpArgs false
structure NB (n : Nat) (A : Option Addr) (ba : Nat) (lv : Nat → Int) (w0 : World) (bt bf : Nat) (wr : World) (tt fr : Nat → Int) : Prop where
 below : Below w0.heap.size w0 wr
 rt : wr.rowIs bt 3 n (fun k => .int .i64 (tt k))
 rf : wr.rowIs bf 3 n (fun k => .int .i64 (fr k))
 gt : w0.heap.size ≤ bt
 gf : w0.heap.size ≤ bf
 ne : bt ≠ bf
 la : ∀ k, k < n → A = some ⟨ba, 0, none⟩ ∧ w0.cell? ⟨ba, 0 + k, none⟩ = some (.int .i64 (lv k))
 lb : 0 < n → ba < w0.heap.size
section
variable {n : Nat} {A : Option Addr} {ba : Nat} {lv : Nat → Int} {w0 wr w2 : World} {bt bf bb : Nat} {tt fr by_ : Nat → Int}
theorem NB.cell (h : NB n A ba lv w0 bt bf wr tt fr) (k : Nat) (hk : k < n) : A = some ⟨ba, 0, none⟩ ∧ wr.cell? ⟨ba, 0 + k, none⟩ = some (.int .i64 (lv k)) :=
 ⟨(h.la k hk).1, by rw [h.below.cell (p := ⟨ba, 0 + k, none⟩) (h.lb (by omega))]; exact (h.la k hk).2⟩
theorem NB.drewN (h : NB n A ba lv w0 bt bf wr tt fr) (m : Nat) : NB n A ba lv w0 bt bf (wr.drewN m) tt fr := ⟨pw_below_drewN h.below m, h.rt, h.rf, h.gt, h.gf, h.ne, h.la, h.lb⟩
theorem NB.drew (h : NB n A ba lv w0 bt bf wr tt fr) : NB n A ba lv w0 bt bf wr.drew tt fr := ⟨h.below.drew, h.rt, h.rf, h.gt, h.gf, h.ne, h.la, h.lb⟩
theorem NB.alloc (h : NB n A ba lv w0 bt bf wr tt fr) (o : Obj) : NB n A ba lv w0 bt bf (wr.alloc o) tt fr := ⟨h.below.alloc h.below.size o, h.rt.alloc o, h.rf.alloc o, h.gt, h.gf, h.ne, h.la, h.lb⟩
theorem NB.setT (h : NB n A ba lv w0 bt bf wr tt fr) (k : Nat) (v : Int) : NB n A ba lv w0 bt bf (wr.setCell ⟨bt, k, none⟩ (.int .i64 v)) (put tt k v) fr :=
 ⟨h.below.setCell h.gt _, (h.rt.set k _).congr (fun j _ => by unfold put; by_cases e : j = k <;> simp [e]), h.rf.setOther h.ne.symm _, h.gt, h.gf, h.ne, h.la, h.lb⟩
theorem NB.setF (h : NB n A ba lv w0 bt bf wr tt fr) (k : Nat) (v : Int) : NB n A ba lv w0 bt bf (wr.setCell ⟨bf, k, none⟩ (.int .i64 v)) tt (put fr k v) :=
 ⟨h.below.setCell h.gf _, h.rt.setOther h.ne _, (h.rf.set k _).congr (fun j _ => by unfold put; by_cases e : j = k <;> simp [e]), h.gt, h.gf, h.ne, h.la, h.lb⟩
theorem NB.other (h : NB n A ba lv w0 bt bf wr tt fr) {a : Addr} (h1 : w0.heap.size ≤ a.block) (h2 : bt ≠ a.block) (h3 : bf ≠ a.block) (v : Value) : NB n A ba lv w0 bt bf (wr.setCell a v) tt fr :=
 ⟨h.below.setCell h1 _, h.rt.setOther h2 _, h.rf.setOther h3 _, h.gt, h.gf, h.ne, h.la, h.lb⟩
theorem NB.later {B : Nat} (h : NB n A ba lv w0 bt bf wr tt fr) (hb : Below B wr w2) (h0 : w0.heap.size ≤ B) (h1 : bt < B) (h2 : bf < B) : NB n A ba lv w0 bt bf w2 tt fr :=
 ⟨h.below.trans (hb.mono h0), h.rt.of_block (hb.block _ h1), h.rf.of_block (hb.block _ h2), h.gt, h.gf, h.ne, h.la, h.lb⟩
theorem NB.congr {tt' fr' : Nat → Int} (h : NB n A ba lv w0 bt bf wr tt fr) (e1 : ∀ k, k < n → tt k = tt' k) (e2 : ∀ k, k < n → fr k = fr' k) : NB n A ba lv w0 bt bf wr tt' fr' :=
 ⟨h.below, h.rt.congr fun k hk => by rw [e1 k hk], h.rf.congr fun k hk => by rw [e2 k hk], h.gt, h.gf, h.ne, h.la, h.lb⟩
structure NI (n : Nat) (A : Option Addr) (ba : Nat) (lv : Nat → Int) (w0 : World) (bt bf bb : Nat) (wr : World) (tt fr by_ : Nat → Int) : Prop where
 nb : NB n A ba lv w0 bt bf wr tt fr
 rb : wr.rowIs bb 3 n (fun k => .int .i64 (by_ k))
 ht : bt < bb
 hf : bf < bb
theorem NI.g0 (h : NI n A ba lv w0 bt bf bb wr tt fr by_) : w0.heap.size ≤ bb := by have := h.nb.gt; have := h.ht; omega
theorem NI.drewN (h : NI n A ba lv w0 bt bf bb wr tt fr by_) (m : Nat) : NI n A ba lv w0 bt bf bb (wr.drewN m) tt fr by_ := ⟨h.nb.drewN m, h.rb, h.ht, h.hf⟩
theorem NI.alloc (h : NI n A ba lv w0 bt bf bb wr tt fr by_) (o : Obj) : NI n A ba lv w0 bt bf bb (wr.alloc o) tt fr by_ := ⟨h.nb.alloc o, h.rb.alloc o, h.ht, h.hf⟩
theorem NI.setB (h : NI n A ba lv w0 bt bf bb wr tt fr by_) (k : Nat) (v : Int) : NI n A ba lv w0 bt bf bb (wr.setCell ⟨bb, k, none⟩ (.int .i64 v)) tt fr (put by_ k v) :=
 ⟨h.nb.other (a := ⟨bb, k, none⟩) h.g0 (by have := h.ht; show bt ≠ bb; omega) (by have := h.hf; show bf ≠ bb; omega) _, (h.rb.set k _).congr (fun j _ => by unfold put; by_cases e : j = k <;> simp [e]), h.ht, h.hf⟩
theorem NI.setT (h : NI n A ba lv w0 bt bf bb wr tt fr by_) (k : Nat) (v : Int) : NI n A ba lv w0 bt bf bb (wr.setCell ⟨bt, k, none⟩ (.int .i64 v)) (put tt k v) fr by_ :=
 ⟨h.nb.setT k v, h.rb.setOther (by have := h.ht; show bb ≠ bt; omega) _, h.ht, h.hf⟩
theorem NI.setF (h : NI n A ba lv w0 bt bf bb wr tt fr by_) (k : Nat) (v : Int) : NI n A ba lv w0 bt bf bb (wr.setCell ⟨bf, k, none⟩ (.int .i64 v)) tt (put fr k v) by_ :=
 ⟨h.nb.setF k v, h.rb.setOther (by have := h.hf; show bb ≠ bf; omega) _, h.ht, h.hf⟩
theorem NI.later (h : NI n A ba lv w0 bt bf bb wr tt fr by_) (hb : Below (bb + 1) wr w2) : NI n A ba lv w0 bt bf bb w2 tt fr by_ :=
 ⟨h.nb.later hb (by have := h.g0; omega) (by have := h.ht; omega) (by have := h.hf; omega), h.rb.of_block (hb.block _ (by omega)), h.ht, h.hf⟩
theorem NI.congr {by' : Nat → Int} (h : NI n A ba lv w0 bt bf bb wr tt fr by_) (e : ∀ k, k < n → by_ k = by' k) : NI n A ba lv w0 bt bf bb wr tt fr by' :=
 ⟨h.nb, h.rb.congr fun k hk => by rw [e k hk], h.ht, h.hf⟩
theorem ni_start (h : NB n A ba lv w0 bt bf wr tt fr) : NI n A ba lv w0 bt bf wr.heap.size (wr.alloc (.cells (madeCells #[.int .i64 0] n) 3)) tt fr (fun _ => 0) :=
 ⟨h.alloc _, World.rowIs_made wr (.int .i64 0) n 3, h.rt.lt, h.rf.lt⟩
end
abbrev Qu (wr : World) (bb : Nat) (v : Value) (todo : List Nat) : Prop := Kd.Q (Kd.int .i64) 3 wr (bb + 1) (fun k => bb < k) v (todo.map fun s : Nat => (s : Int))
theorem qu_start (wr : World) (bb : Nat) (hb : bb < wr.heap.size) (i : Nat) : Qu (wr.alloc (.cells #[.int .i64 (i : Int)] 3)) bb (.slice (some ⟨wr.heap.size, 0, none⟩) 1 1) [i] := by
 refine Kd.Q_of_R (Kd.R_of_own (h1 := fun _ => rfl) ⟨rfl, .inr ⟨wr.heap.size, 1, #[.int .i64 (i : Int)], rfl, hb, (by show (wr.heap.push _)[wr.heap.size]? = _; simp), Nat.le_refl _, by decide, rfl, rfl⟩⟩ fun k hk => ?_)
 have : wr.heap.size = k := by simpa [Value.ownBlock] using hk
 omega
theorem qu_below {wr : World} {bb : Nat} {v : Value} {todo : List Nat} (h : Qu wr bb v todo) {a : Addr} (ha : a.block ≤ bb) (u : Value) : Qu (wr.setCell a u) bb v todo :=
 Kd.Q_far h (fun k hk => by have : bb < k := hk; omega) u
end Go.Proofs.YtcmllllbmgcnlaaGreat.Ch
end
