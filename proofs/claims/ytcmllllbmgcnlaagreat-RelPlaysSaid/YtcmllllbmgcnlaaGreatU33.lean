/- Own texts, joined and cut to what the claim stands on: BtCells. -/
import Derived.Test.YtcmllllbmgcnlaaGreatU17
section
namespace Go.Proofs.YtcmllllbmgcnlaaGreat.Tup
open Go.RowKit Go.Lib Go.Shelf Go.Proofs.YtcmllllbmgcnlaaGreat.G Go.Proofs.YtcmllllbmgcnlaaGreatW.PrintWords Go.Proofs.YtcmllllbmgcnlaaGreatW.PrintLast Go.Proofs.YtcmllllbmgcnlaaGreatW.PrintMore
set_option linter.unusedVariables false
set_option linter.unusedSimpArgs false
def CellsIn (W W' : World) : Prop := ∀ a v, W.cell? a = some v → W'.cell? a = some v
def Kmono {α : Type} (d : Kd α) : Prop := ∀ W W' A n xs, CellsIn W W' → d.C W A n xs → d.C W' A n xs
theorem row_mono {α : Type} {R R' : α → List Value → Prop} {sz : Nat} {W W' : World} {A : Option Addr} {n : Nat} {xs : List α} (hR : ∀ p c, R p c → R' p c) (hc : CellsIn W W') (h : ReadsRow R sz W A n xs) : ReadsRow R' sz W' A n xs := by
 refine ⟨h.1, h.2.1, fun hn => ?_⟩
 obtain ⟨ad, e, hh⟩ := h.2.2 hn
 refine ⟨ad, e, fun j p hj => ?_⟩
 obtain ⟨c, h1, h2, h3⟩ := hh j p hj
 exact ⟨c, h1, hR p c h2, fun i u hu => hc _ _ (h3 i u hu)⟩
theorem int_mono : Kmono (Kd.int .i64) := fun W W' A n xs hc h => row_mono (fun p c h => h) hc h
theorem kn_mono : Kmono KN := fun W W' A n xs hc h => row_mono (fun p c h => h) hc h
theorem kt_mono : Kmono KT := fun W W' A n xs hc h => row_mono (fun p c ⟨A, cc, e, hl, hC⟩ => ⟨A, cc, e, hl, int_mono _ _ _ _ _ hc hC⟩) hc h
theorem cell_cells {W : World} {a : Addr} {v : Value} (h : W.cell? a = some v) : IsCells W a.block := by
 unfold World.cell? at h
 split at h
 ·rename_i c e f hb
  exact ⟨_, hb, rfl⟩
 ·simp at h
open Classical in
theorem F_cells {α : Type} {d : Kd α} (hd : Kmono d) {W : World} {ok : Nat → Prop} {A : Option Addr} {n : Nat} {xs : List α} (h : Kd.F d W ok A n xs) : Kd.F d W (fun k => ok k ∧ IsCells W k) A n xs := by
 intro W' hW'
 obtain ⟨f, hf⟩ : ∃ f : Nat → Obj, f = fun k => if ok k ∧ k < W.heap.size then (W.heap[k]?).getD (.deferred none) else (W'.heap[k]?).getD (.deferred none) := ⟨_, rfl⟩
 obtain ⟨W2, hW2⟩ : ∃ W2 : World, W2 = { W' with heap := Array.ofFn (n := W.heap.size + W'.heap.size) fun k => f k.val } := ⟨_, rfl⟩
 have hget : ∀ k, k < W.heap.size + W'.heap.size → W2.heap[k]? = some (f k) := fun k hk => by rw [hW2]; simp [hk]
 have h2 : d.C W2 A n xs := h W2 fun k hk hlt => by
  rw [hget k (by omega), hf]
  simp only [hk, hlt, and_self, if_true]
  rw [Array.getElem?_eq_getElem hlt]; rfl
 refine hd _ _ _ _ _ (fun a v hv => ?_) h2
 obtain ⟨ob, hob, hoc⟩ := cell_cells hv
 have hlt2 : a.block < W.heap.size + W'.heap.size := by
  have := (Array.getElem?_eq_some_iff.1 hob).1
  rw [hW2] at this; simpa using this
 rw [hget _ hlt2] at hob
 injection hob with hob
 have hblk : W'.heap[a.block]? = W2.heap[a.block]? := by
  rw [hget _ hlt2]
  rw [hf] at hob ⊢
  by_cases hk : ok a.block ∧ a.block < W.heap.size
  ·simp only [hk, and_self, if_true] at hob ⊢
   rw [Array.getElem?_eq_getElem hk.2] at hob ⊢
   have hc : IsCells W a.block := ⟨ob, by rw [Array.getElem?_eq_getElem hk.2, ← hob]; rfl, hoc⟩
   rw [hW' a.block ⟨hk.1, hc⟩ hk.2, Array.getElem?_eq_getElem hk.2]; rfl
  ·dsimp only at hob ⊢
   rw [if_neg hk] at hob ⊢
   cases hx : W'.heap[a.block]? with
   | none => rw [hx] at hob; simp at hob; rw [← hob] at hoc; cases hoc
   | some y => rfl
 rw [World.cell?_of_block hblk]; exact hv
theorem NodeF.cells {ok : Nat → Prop} {W : World} {b : Nat} {T : BT} (h : NodeF ok W b T) : NodeF (fun k => ok k ∧ IsCells W k) W b T := by
 induction h with
 | mk b A0 c0 A1 c1 ts kids ps hok hc0 hc1 hle0 hle1 hlp hT hN hk ih =>
  exact .mk b A0 c0 A1 c1 ts kids ps ⟨hok, cell_cells hc0⟩ hc0 hc1 hle0 hle1 hlp (F_cells kt_mono hT) (F_cells kn_mono hN) ih
theorem SetAt.cells {ok : Nat → Prop} {W : World} {bs : Nat} {A : Option Addr} {c : Nat} {o : Tp} {rt : Nat} {T : BT} (h : SetAt ok W bs A c o rt T) : SetAt (fun k => ok k ∧ IsCells W k) W bs A c o rt T :=
 ⟨h.hp, h.so, F_cells int_mono h.F, h.nd.cells, h.wf, h.rto, h.fit, h.up, h.le, fun hk => h.nok hk.1⟩
theorem SetAt.others {ok : Nat → Prop} {W W1 : World} {bs : Nat} {A : Option Addr} {c : Nat} {o : Tp} {rt : Nat} {T : BT} (h : SetAt ok W bs A c o rt T) {row : Option Nat} (hg : W.grownBy W1 row) (hr : ∀ r, row = some r → ∃ o : Obj, W.heap[r]? = some o ∧ o.isCells = false) : SetAt ok W1 bs A c o rt T :=
 (h.cells.step (W1 := W1) (fun k hk hlt => (isCells_kept hk.2 hg hr).1) (isCells_kept ⟨_, h.hp, rfl⟩ hg hr).1).mono (fun k hk => hk.1) h.nok
end Go.Proofs.YtcmllllbmgcnlaaGreat.Tup
end
