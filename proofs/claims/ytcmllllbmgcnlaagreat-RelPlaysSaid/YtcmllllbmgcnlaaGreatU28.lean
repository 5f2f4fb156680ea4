/- Own texts, joined and cut to what the claim stands on: RlOpen, RlSeq, RlCmp, RlRound, RlColl, RlSort. -/
import Derived.ProofKit
import Derived.Laws.Cover2
import Derived.OpenShut
import Derived.ChangeOld
import Derived.Lib.SmallJoins
import Derived.Laws.IdiomArrays
import Derived.Deep.Slices
import Derived.SizedLaws
import Derived.Deep.RegionHeld3
import Derived.OrdersIn
import Derived.Maps.AppendAt
import Derived.Shelf.SlSortCmp.WholeK
import Derived.Shelf.SlSortCmp.NoneTotal
import Derived.Shelf.Lay
import Derived.Ground.SlsfProg
import Derived.Test.YtcmllllbmgcnlaaGreatU26
import Derived.Test.YtcmllllbmgcnlaaGreatU27
import Derived.Test.YtcmllllbmgcnlaaGreatU18
import Derived.Test.YtcmllllbmgcnlaaGreatU17
section
namespace Go.Proofs.YtcmllllbmgcnlaaGreat.Rl
open Go.ChangeShapes Go.WideShapes Go.ChangeAt Go.RowKit Go.Joins Go.Proofs.YtcmllllbmgcnlaaGreat.G Go.Proofs.YtcmllllbmgcnlaaGreat.Tup Go.Proofs.YtcmllllbmgcnlaaGreatW Go.Proofs.YtcmllllbmgcnlaaGreatW.PrintWords
set_option linter.unusedVariables false
set_option linter.unusedSimpArgs false
section
variable {H : Type} {enc : TypeId × Value → H} {W : World} {base b0 : Nat} {held : Bool}
set_option maxRecDepth 100000 in
theorem sl_of_trod {fuel : Nat} {a : Option Addr} {len cap : Nat} {y : DataW H × List MemPlace} (hf : DataW.trod enc Tryz.prog W base (fun _ => true) held fuel 23 [.slice a len cap] = some y) :
  ∃ l : List Int, len = l.length ∧ Sl W a cap l ∧ ∀ x ∈ l, (Lit.int .i64 x).wf = true := by
 have row : (a = none ∧ len = 0 ∧ cap = 0 ∧ ([] : List Int) = []) ∨ ∃ zs : List Int, ∃ x, a = some x ∧ len ≤ cap ∧ cap ≤ maxLen ∧ zs.length = cap ∧ (∀ i, i < zs.length → W.cell? (x.add i) = some (.int .i64 (zs.getD i 0))) ∧ ∀ n ∈ zs, (Lit.int .i64 n).wf = true := by
  rcases open_ints Tryz.underlying23 Tryz.underlying3 (by kernel_rfl) hf with ⟨hcs, _⟩ | ⟨x, l, c, zs, hcs, _, hl, hm, hz, _, hcell, hwz⟩
  ·simp at hcs
   obtain ⟨rfl, rfl, rfl⟩ := hcs
   exact .inl ⟨rfl, rfl, rfl, rfl⟩
  ·simp at hcs
   obtain ⟨rfl, rfl, rfl⟩ := hcs
   exact .inr ⟨zs, _, rfl, hl, hm, by simpa using hz, hcell, hwz⟩
 have row2 : ∃ zs : List Int, (a = none ∧ len = 0 ∧ cap = 0 ∧ zs = []) ∨ ∃ x, a = some x ∧ len ≤ cap ∧ cap ≤ maxLen ∧ zs.length = cap ∧ (∀ i, i < zs.length → W.cell? (x.add i) = some (.int .i64 (zs.getD i 0))) ∧ ∀ n ∈ zs, (Lit.int .i64 n).wf = true := by
  rcases row with h | ⟨zs, h⟩
  ·exact ⟨[], .inl h⟩
  ·exact ⟨zs, .inr h⟩
 obtain ⟨zs, h⟩ := row2
 obtain ⟨l, e, hr, hm, hw, hc⟩ := ReadsInt.ofRowC h
 subst e
 exact ⟨l, rfl, ⟨Kd.C_of_reads (d := (0 : Int)) (h1 := fun _ => rfl) hr, hc⟩, hw⟩
theorem weights_all {P : Program} {e : TypeId} {d : DataW H} : ∀ {l : List (DataW H)}, d ∈ l → ∀ x ∈ d.weights P e, x ∈ DataW.weightsAll P e l := by
 intro l
 induction l with
 | nil => intro h; simp at h
 | cons a l ih =>
  intro h x hx
  rw [DataW.weightsAll]
  rcases List.mem_cons.1 h with rfl | h
  ·exact List.mem_append.2 (.inl hx)
  ·exact List.mem_append.2 (.inr (ih h x hx))
set_option maxRecDepth 100000 in
theorem sl_sized {fuel : Nat} {a : Option Addr} {len cap : Nat} {d : DataW H} {ps : List MemPlace} (hf : DataW.trod enc Tryz.prog W base (fun _ => true) held fuel 23 [.slice a len cap] = some (d, ps)) (hz : ∀ x ∈ d.weights Tryz.prog 23, x ≤ reachBytes) : len * 8 ≤ 140737488351232 := by
 have hsz : (DataW.weightsEach Tryz.prog [23] [d]).all (· ≤ reachBytes) = true := by
  rw [List.all_eq_true]
  intro x hx
  simp [DataW.weightsEach] at hx
  exact decide_eq_true (hz x hx)
 exact PrintWords.sized_ints hsz (j := 0) (t := 23) rfl rfl Tryz.underlying23 Tryz.underlying3 (by kernel_rfl) (by kernel_rfl) ⟨fuel, hf⟩
set_option maxRecDepth 100000 in
theorem okWide_array {t e : TypeId} {n : Nat} {r : Reach} {v : Value} (ht : Tryz.prog.underlying t = some (.array n e)) (h : Value.okWide Tryz.prog W r b0 t v) : ∃ cs, v = .agg cs ∧ cs.size = Tryz.prog.cellsOf t := by
 unfold Value.okWide at h
 rw [ht] at h
 obtain ⟨cs, rfl, hs, _⟩ := h
 exact ⟨cs, rfl, hs⟩
set_option maxRecDepth 100000 in
theorem trod_array2 {t e : TypeId} {fuel : Nat} {c0 c1 : Value} {x : DataW H × List MemPlace} (ht : Tryz.prog.underlying t = some (.array 2 e)) (hce : Tryz.prog.cellsOf e = 1)
  (h : DataW.trod enc Tryz.prog W base (fun _ => true) held fuel t [c0, c1] = some x) :
  ∃ y0 y1 n, x.1 = DataW.agg [y0.1, y1.1] ∧ DataW.trod enc Tryz.prog W base (fun _ => true) held n e [c0] = some y0 ∧ DataW.trod enc Tryz.prog W base (fun _ => true) held n e [c1] = some y1 := by
 obtain ⟨xs, m, _, hx, _, hl, hf⟩ := DataW.trod_array ht h
 have h0 := hf 0 (by omega)
 have h1 := hf 1 (by omega)
 rw [hce] at h0 h1
 match xs, hl with
 | [y0, y1], _ => exact ⟨y0, y1, m, by rw [hx]; rfl, by simpa using h0, by simpa using h1⟩
theorem arr_two {cs : Array Value} (h : cs.size = 2) : ∃ x y, cs = #[x, y] := by
 obtain ⟨l⟩ := cs
 match l, h with
 | [x, y], _ => exact ⟨x, y, rfl⟩
end
end Go.Proofs.YtcmllllbmgcnlaaGreat.Rl
end
section
namespace Go.Proofs.YtcmllllbmgcnlaaGreat.Rl
open Go.RowKit Go.Lib Go.Shelf Go.Proofs.YtcmllllbmgcnlaaGreat.G Go.Proofs.YtcmllllbmgcnlaaGreat.Tup Go.Proofs.YtcmllllbmgcnlaaGreatW.PrintWords Go.Proofs.YtcmllllbmgcnlaaGreatW.PrintLast Go.Proofs.YtcmllllbmgcnlaaGreatW.PrintMore
set_option linter.unusedVariables false
set_option linter.unusedSimpArgs false
def Given (a N : Nat) (W : World) (A : Option Addr) (c : Nat) (x : Tp) : Prop := W.ownsRow a 3 1 (.slice A x.length c) x.length (x.map (Value.int .i64)) ∧ ∀ k, (Value.slice A x.length c).ownBlock = some k → k < N
def PrivX (a N : Nat) (A : Option Addr) : Nat → Prop := fun k => a ≤ k ∧ k < N ∧ ∀ ad, A = some ad → k ≠ ad.block
def Rounds2 (F : Fence) (P : Program) (l : Nat) (J Jx : List Row → World → Prop) (a N : Nat) (xs : List Row) : Prop :=
 ∀ m pre x A c W1, J pre W1 → pre ++ [x] <+: xs → Given a N W1 A c x.1 → YieldAt F m P l #[.slice A x.1.length c, noteV x.2] W1 fun e W' => (e = .returned (.bool true) ∧ J (pre ++ [x]) W' ∧ KpF (PrivX a N A) W1 W') ∨ (e = .returned (.bool false) ∧ Jx (pre ++ [x]) W' ∧ KeepsFrom a W1 W')
def Seq2R (F : Fence) (P : Program) (gf : Nat) (lb : Array Value) (xs : List Row) (w : World) : Prop :=
 ∀ (l : Nat) (J Jx : Nat → List Row → World → Prop) (W : World), Below w.heap.size w W → (∀ N, W.heap.size ≤ N → OwnFrom W.heap.size (J N)) → (∀ N, W.heap.size ≤ N → OwnFrom W.heap.size (Jx N)) → (∀ N, W.heap.size ≤ N → Rounds2 F P l (J N) (Jx N) W.heap.size N xs) → (∀ W', Below W.heap.size W W' → J W'.heap.size [] W') →
  ∀ n, CallsIn F n P gf (#[.func (.yield l) #[] #[]] ++ lb) W fun e W' => (∃ v, e = .returned v) ∧ ∃ N, W.heap.size ≤ N ∧ (J N xs W' ∨ ∃ pre, pre <+: xs ∧ Jx N pre W')
theorem rounds_of2 {F : Fence} {n : Nat} (hd : F.depth = none) {P : Program} {B l : Nat} (hBl : B ≤ l) {fn : FuncId} {tm : Array Value} {ps : Array Tmp} {assign body : Code} {d : Nat} (hfn : F.fn fn) {a0 N0 : Nat} {xs : List Row} (hps : ps.size = 2) (I : List Row → World → Prop) (Ix : Code → List Row → World → Prop) (hI : OwnFrom B I) (hIx : ∀ c, OwnFrom B (Ix c)) (Dl : List Nat) (hD : ∀ D ∈ Dl, B ≤ D ∧ D ≠ l) (hla : l < a0) (hBa : B ≤ a0) (a₁ : Row → Option Addr → Nat → Act)
  (hassign : ∀ x A c W (K : Act → World → Prop), K (a₁ x A c) W → assign.wpIn (F.inRound l) n P (Exit.then K (fun _ _ _ => False)) { tmps := (ps.zip #[Value.slice A x.1.length c, noteV x.2]).foldl (fun t (p, v) => t.setIfInBounds p v) tm, defers := [] } W)
  (hbody : ∀ pre x A c W1, (∃ r, W1.heap[l]? = some (.loop r)) → pre ++ [x] <+: xs → Given a0 N0 W1 A c x.1 → I pre W1 → body.wpIn (F.inRound l) n P (ownPostG B (KpF (PrivX a0 N0 A)) I Ix (pre ++ [x]) W1) (a₁ x A c) W1) :
  Rounds2 F P l (fun pre W => I pre W ∧ W.heap[l]? = some (.loop (recOf fn tm ps assign body d .ready none)) ∧ Marks Dl W) (fun pre W => ∃ c, Ix c pre W ∧ W.heap[l]? = some (.loop (recOf fn tm ps assign body d .done (some c))) ∧ Marks Dl W) a0 N0 xs := by
 rintro m pre x A c W1 ⟨hi1, hl1, hk1⟩ hpre ⟨ho, hN⟩
 have hlt1 := (Array.getElem?_eq_some_iff.1 hl1).1
 refine yieldAny hd m ⟨fn, _, assign, body, run_yield hl1 (by simp [recOf, hps]), roundIn_of_wpIn hfn (hassign x A c W1 _ ⟨_, run_beginRound hl1 rfl, ?_⟩)⟩
 obtain ⟨ob, hob⟩ : ∃ ob, ob = Obj.loop { recOf fn tm ps assign body d .ready none with state := .busy } := ⟨_, rfl⟩
 rw [← hob]
 have hoo : Given a0 N0 (W1.putObj l ob) A c x.1 := ⟨own_move ho fun k hk => World.putObj_heap_other (fun e => by
  obtain ⟨cells, hc⟩ := own_typed ho k hk
  rw [e, hl1] at hc; cases hc), hN⟩
 have hl2 : (W1.putObj l ob).heap[l]? = some ob := World.putObj_heap_same hlt1
 have hk2 : Marks Dl (W1.putObj l ob) := fun D hD' => (World.putObj_heap_other (hD D hD').2).trans (hk1 D hD')
 refine wpIn_mono (hbody pre x A c (W1.putObj l ob) ⟨_, hl2.trans (by rw [hob])⟩ hpre hoo (hI.putObj _ hi1 hBl hl1 rfl)) ?_
 have hnl : ∀ k, PrivX a0 N0 A k → k ≠ l := fun k hk => by have := hk.1; omega
 have fin : ∀ (jump : Option Code) (W3 : World), KeepsFrom B (W1.putObj l ob) W3 → ∃ v W4, (Instr.endRound l jump).run P W3 = .ok v W4 ∧ v = .bool jump.isNone ∧ W4 = W3.putObj l (.loop (recOf fn tm ps assign body d (if jump.isNone then .ready else .done) jump)) ∧ W3.heap[l]? = some ob ∧ W4.heap[l]? = some (.loop (recOf fn tm ps assign body d (if jump.isNone then .ready else .done) jump)) ∧ Marks Dl W4 := by
  intro jump W3 hk3
  have hl3 : W3.heap[l]? = some ob := hk3.same l ob hBl hl2 (by rw [hob]; rfl)
  have hlt3 := (Array.getElem?_eq_some_iff.1 hl3).1
  refine ⟨_, _, run_endRound jump (hl3.trans (by rw [hob])), rfl, rfl, hl3, World.putObj_heap_same hlt3, fun D hD' => (World.putObj_heap_other (hD D hD').2).trans (hk3.same D _ (hD D hD').1 (hk2 D hD') rfl)⟩
 have stop : ∀ (cc : Code) (W3 : World), KeepsFrom B (W1.putObj l ob) W3 → Ix cc (pre ++ [x]) W3 → ∃ v W4, (Instr.endRound l (some cc)).run P W3 = .ok v W4 ∧ ((Ending.returned v = .returned (.bool true) ∧ (I (pre ++ [x]) W4 ∧ W4.heap[l]? = some (.loop (recOf fn tm ps assign body d .ready none)) ∧ Marks Dl W4) ∧ KpF (PrivX a0 N0 A) W1 W4) ∨ (Ending.returned v = .returned (.bool false) ∧ (∃ c', Ix c' (pre ++ [x]) W4 ∧ W4.heap[l]? = some (.loop (recOf fn tm ps assign body d .done (some c'))) ∧ Marks Dl W4) ∧ KeepsFrom a0 W1 W4)) := by
  intro cc W3 hk3 hx
  obtain ⟨v, W4, hr, rfl, rfl, hl3, hl4, hm4⟩ := fin (some cc) W3 hk3
  exact ⟨_, _, hr, .inr ⟨rfl, ⟨cc, (hIx cc).putObj _ hx hBl hl3 (by rw [hob]; rfl), hl4, hm4⟩, ⟨by have := hk3.size; simp at this ⊢; exact this, fun k o hk ho hc => (World.putObj_heap_other (by omega)).trans (hk3.same k o (by omega) ((World.putObj_heap_other (by omega)).trans ho) hc)⟩⟩⟩
 rintro e a3 W3 hp
 cases e with
 | normal =>
  obtain ⟨hk3, hkp3, hi3⟩ := hp
  obtain ⟨v, W4, hr, rfl, rfl, hl3, hl4, hm4⟩ := fin none W3 hk3
  refine ⟨_, _, hr, .inl ⟨rfl, ⟨hI.putObj _ hi3 hBl hl3 (by rw [hob]; rfl), hl4, hm4⟩, ?_⟩⟩
  have q1 : KpF (PrivX a0 N0 A) W1 (W1.putObj l ob) := ⟨by simp, fun k hk _ => World.putObj_heap_other (hnl k hk)⟩
  exact (q1.trans hkp3).trans ⟨by simp, fun k hk _ => World.putObj_heap_other (hnl k hk)⟩
 | ret => exact stop .ret W3 hp.1 hp.2
 | exit id => exact stop (.exit id) W3 hp.1 hp.2
 | goto t => exact stop (.goto t) W3 hp.1 hp.2
 | panic ch => exact hp.elim
 | outgrown => exact hp.elim
theorem range2_outer {F : Fence} {n : Nat} {P : Program} {g : Operand} {ps : Array Tmp} {assign body : Code} {Q : Exit → Act → World → Prop} {a : Act} {w : World} (hd : F.depth = none) (hro : F.round = none)
  {gf : Nat} {lb : Array Value} (hg : a.eval g = .func (.func gf) #[] lb) (hFg : F.fn gf) (eg : ∀ args w, (callFunc gf args).run P w = .ok (.enter gf args) w)
  {xs : List Row} (hseq : Seq2R F P gf lb xs w) (hps : ps.size = 2)
  (I : Nat → List Row → World → Prop) (Ix : Nat → Code → List Row → World → Prop) (hI : ∀ N, w.heap.size + 2 ≤ N → OwnFrom w.heap.size (I N)) (hIx : ∀ N c, w.heap.size + 2 ≤ N → OwnFrom w.heap.size (Ix N c)) (h0 : ∀ W', Below w.heap.size w W' → w.heap.size + 2 ≤ W'.heap.size → I W'.heap.size [] W') (a₁ : Row → Option Addr → Nat → Act)
  (hassign : ∀ l x A c W (K : Act → World → Prop), K (a₁ x A c) W → assign.wpIn (F.inRound l) n P (Exit.then K (fun _ _ _ => False)) { tmps := (ps.zip #[Value.slice A x.1.length c, noteV x.2]).foldl (fun t (p, v) => t.setIfInBounds p v) a.tmps, defers := [] } W)
  (hbody : ∀ N l pre x A c W1, w.heap.size + 2 ≤ N → w.heap.size ≤ l → (∃ r, W1.heap[l]? = some (.loop r)) → pre ++ [x] <+: xs → Given (w.heap.size + 2) N W1 A c x.1 → I N pre W1 → body.wpIn (F.inRound l) n P (ownPostG w.heap.size (KpF (PrivX (w.heap.size + 2) N A)) (I N) (Ix N) (pre ++ [x]) W1) (a₁ x A c) W1)
  (hdone : ∀ (N D : Nat) (W : World), w.heap.size + 2 ≤ N → w.heap.size ≤ D → I N xs W → W.heap[D]? = some (.deferred (some [])) → Q .normal { a with defers := { target := .collected D, args := #[] } :: a.defers } W)
  (hstop : ∀ (N D : Nat) (c : Code) (pre : List Row) (W : World), w.heap.size + 2 ≤ N → w.heap.size ≤ D → pre <+: xs → Ix N c pre W → W.heap[D]? = some (.deferred (some [])) → c.wpIn F n P Q { a with defers := { target := .collected D, args := #[] } :: a.defers } W) :
  (Code.rangeFunc g ps assign body).wpIn F n P Q a w := by
 refine wpIn_rangeFunc ?_
 intro fn hfn
 rw [hro]
 obtain ⟨W1, hW1⟩ : ∃ W1, (w.alloc (.deferred (some []))).alloc (.loop (recOf fn a.tmps ps assign body w.heap.size .ready none)) = W1 := ⟨_, rfl⟩
 have hL1 : W1.heap[w.heap.size + 1]? = some (.loop (recOf fn a.tmps ps assign body w.heap.size .ready none)) := by
  rw [← hW1]; have := World.alloc_heap_new (w.alloc (.deferred (some []))) (.loop (recOf fn a.tmps ps assign body w.heap.size .ready none)); rwa [World.size_alloc] at this
 have hK1 : W1.heap[w.heap.size]? = some (.deferred (some [])) := by
  rw [← hW1]; exact (Below.heap_alloc _ _ _ (by simp)).trans (World.alloc_heap_new w _)
 have hb1 : Below w.heap.size w W1 := by rw [← hW1]; exact below_alloc (below_alloc (Below.refl _ _) _) _
 have hw1 : W1.heap.size = w.heap.size + 2 := by rw [← hW1]; simp
 refine ⟨w.heap.size + 1, [{ target := .collected w.heap.size, args := #[] }], W1, { target := .fn (.func gf) lb, args := #[.func (.yield (w.heap.size + 1)) #[] #[]] }, W1, gf,
  #[.func (.yield (w.heap.size + 1)) #[] #[]] ++ lb, W1, ?_, ?_, ?_, ?_, (fun h => by rw [hd] at h; cases h), ?_⟩
 ·rw [← hW1]; exact run_enterLoop_outer _ _ _ _ _
 ·simp only [resolve, hg]
  simp [go_sem]
 ·intro f' hf'; simp [Target.leads] at hf'; subst hf'; exact hFg
 ·simp [invoke, go_sem, eg]
 ·have hR : ∀ N, W1.heap.size ≤ N → _ := fun N hN => rounds_of2 (n := n) (P := P) (B := w.heap.size) (l := w.heap.size + 1) (d := w.heap.size) (tm := a.tmps) (ps := ps) (assign := assign) (body := body) hd (by omega) hfn (a0 := w.heap.size + 2) (N0 := N) hps (I N) (Ix N) (hI N (by omega)) (fun c => hIx N c (by omega)) [w.heap.size] (fun D hD => by simp at hD; subst hD; omega) (by omega) (by omega) a₁ (hassign _) (fun pre x A c W1 => hbody N _ pre x A c W1 (by omega) (by omega))
  have keep : ∀ {A B : World} {row : Option Nat} (k : Nat) (o : Obj), A.grownBy B row → (∀ r, row = some r → W1.heap.size ≤ r ∧ ∃ o : Obj, A.heap[r]? = some o ∧ o.isCells = false) → A.heap[k]? = some o → k < W1.heap.size → B.heap[k]? = some o := fun k o hg hr hk hlt =>
   (hg.block k (Array.getElem?_eq_some_iff.1 hk).1 (fun e => by have := (hr k e.symm).1; omega)).trans hk
  have hnw : ∀ {A : World} {row : Option Nat}, (∀ r, row = some r → W1.heap.size ≤ r ∧ ∃ o : Obj, A.heap[r]? = some o ∧ o.isCells = false) → (∀ r, row = some r → w.heap.size ≤ r ∧ ∃ o : Obj, A.heap[r]? = some o ∧ o.isCells = false) :=
   fun hr r e => by obtain ⟨hB, o, ho, hw⟩ := hr r e; exact ⟨by omega, o, ho, hw⟩
  rw [← hw1] at hR
  refine (hseq (w.heap.size + 1) (fun N pre W => I N pre W ∧ W.heap[w.heap.size + 1]? = some (.loop (recOf fn a.tmps ps assign body w.heap.size .ready none)) ∧ Marks [w.heap.size] W) (fun N pre W => ∃ c, Ix N c pre W ∧ W.heap[w.heap.size + 1]? = some (.loop (recOf fn a.tmps ps assign body w.heap.size .done (some c))) ∧ Marks [w.heap.size] W) W1 hb1
   (fun N hN s A B row hs hg' hr => ⟨hI N (by omega) s A B row hs.1 hg' (hnw hr), keep _ _ hg' hr hs.2.1 (by omega), fun D hD => keep _ _ hg' hr (hs.2.2 D hD) (by simp at hD; omega)⟩)
   (fun N hN s A B row hs hg' hr => by
    obtain ⟨c, hc, hl, hk⟩ := hs
    exact ⟨c, hIx N c (by omega) s A B row hc hg' (hnw hr), keep _ _ hg' hr hl (by omega), fun D hD => keep _ _ hg' hr (hk D hD) (by simp at hD; omega)⟩) hR
   (fun W' hW' => ⟨h0 W' (below_then hb1 hb1.size hW') (by have := hW'.size; omega), blk hW' hL1, fun D hD => by simp at hD; subst hD; exact blk hW' hK1⟩) (n - 1)).mono ?_
  rintro e W2 ⟨⟨v, rfl⟩, N, hN, (⟨hi, hl, hk⟩ | ⟨pre, hpre, c, hi, hl, hk⟩)⟩
  ·exact ⟨none, _, run_endLoop hl (by simp [recOf]), hdone N _ _ (by omega) (Nat.le_refl _) ((hI N (by omega)).putObj _ hi (by omega) hl rfl) ((World.putObj_heap_other (by omega)).trans (hk _ (by simp)))⟩
  ·exact ⟨some c, _, run_endLoop hl (by simp [recOf]), hstop N _ c pre _ (by omega) (Nat.le_refl _) hpre ((hIx N c (by omega)).putObj _ hi (by omega) hl rfl) ((World.putObj_heap_other (by omega)).trans (hk _ (by simp)))⟩
end Go.Proofs.YtcmllllbmgcnlaaGreat.Rl
end
section
namespace Go.Proofs.YtcmllllbmgcnlaaGreat.Rl
open Go.RowKit Go.Lib Go.Deep Go.Proofs.YtcmllllbmgcnlaaGreat.G Go.Proofs.YtcmllllbmgcnlaaGreat.Tup Go.Proofs.YtcmllllbmgcnlaaGreatW.PrintWords Go.Proofs.YtcmllllbmgcnlaaGreatW.PrintLast Go.Proofs.YtcmllllbmgcnlaaGreatW.PrintMore
set_option linter.unusedVariables false
set_option linter.unusedSimpArgs false
theorem plainO_drop {n i : Nat} (h : i < n) : (plainO n).drop i = (i : Int) :: (plainO n).drop (i + 1) := by
 rw [List.drop_eq_getElem_cons (by rw [plainO_len]; exact h)]
 simp [plainO]
theorem plainO_end (n : Nat) : (plainO n).drop n = [] := List.drop_eq_nil_of_le (by rw [plainO_len]; omega)
set_option maxHeartbeats 4000000 in
set_option maxRecDepth 100000 in
theorem compare_calls (W : World) (n : Nat) (A : Option Addr) (c : Nat) (t : Tp) (B : Option Addr) (d : Nat) (s : Tp) (ht : Sl W A c t) (hs : Sl W B d s) (hlt : t.length = n) (hls : s.length = n) (hn : n ≤ 1000) :
  Calls Tryz.prog 73 #[.slice A n c, .slice B n d] W fun e w' => e = .returned (.int .i64 (cmpL (plainO n) t s)) ∧ Drawn0 W w' := by
 have H1 := Aside0.mk ht
 have H2 := Aside0.mk hs
 have L1 := Aside0.mk hlt
 have L2 := Aside0.mk hls
 have HI := Aside0.mk (fun (k : Nat) (h : k < n) => And.intro (IntWalk.i64_in ((k : Int) + 1) (by omega)) (show (0 : Int) ≤ (k : Int) from by omega))
 obtain ⟨r, hr⟩ : ∃ r, r = cmpL (plainO n) t s := ⟨_, rfl⟩
 rw [← hr]
 have HR := Aside0.mk hr
 clear ht hs hlt hls hr
 go_enter Tryz.func73, Tryz.ntmps73
 go_wp2
 go_loopg [11] n (fun gk v11 wr => ∃ k : Nat, v11 = .int .i64 (k : Int) ∧ Aside0 (k + gk = n) ∧ Aside0 (Drawn0 W wr) ∧ Aside0 (r = cmpL ((plainO n).drop k) t s))
 case atStart => exact ⟨0, rfl, ⟨by omega⟩, ⟨⟨0, rfl⟩⟩, ⟨HR.out⟩⟩
 case round =>
  obtain ⟨k, rfl, HK, HD, HQ⟩ := hrel
  obtain ⟨m, rfl⟩ := HD.out
  by_cases hk : k < n
  ·have hkd : decide (k < n) = true := decide_eq_true hk
   have hki : (k : Int) < (n : Int) := by omega
   have hkn : ¬ (n : Int) ≤ (k : Int) := by omega
   obtain ⟨ad, rfl, c1⟩ := Kd.at_int (Kd.C_drewN H1.out.C m) (k : Int) (by omega) (by rw [L1.out]; omega)
   obtain ⟨bd, rfl, c2⟩ := Kd.at_int (Kd.C_drewN H2.out.C m) (k : Int) (by omega) (by rw [L2.out]; omega)
   rw [show ((k : Int)).toNat = k from by omega] at c1 c2
   obtain ⟨x, hx⟩ : ∃ x, x = rd t (k : Int) := ⟨_, rfl⟩
   obtain ⟨y, hy⟩ : ∃ y, y = rd s (k : Int) := ⟨_, rfl⟩
   rw [← hx] at c1
   rw [← hy] at c2
   have HC := Aside0.mk (fun w => cmp_Compare_int.calls x y _ w (compare_is x y))
   have HS := Aside0.mk (show r = if x < y then -1 else if x > y then 1 else cmpL ((plainO n).drop (k + 1)) t s from by rw [hx, hy, HQ.out, plainO_drop hk]; rfl)
   clear hx hy
   by_cases h1 : x < y
   ·have HC1 : Aside0 (∀ w, Calls Tryz.prog 96 #[.int .i64 x, .int .i64 y] w fun e w' => e = .returned (.int .i64 (-1)) ∧ Drawn0 w w') := ⟨fun w => by have := HC.out w; rwa [if_pos h1] at this⟩
    have HS1 := Aside0.mk (HS.out.trans (if_pos h1))
    clear h1 HC HS
    go_wp2_with (go_at_call 96; (with_reducible refine (HC1.out _).mono ?_); rintro e w1 ⟨rfl, ⟨m1, rfl⟩⟩)
    go_ret
    exact ⟨by rw [HS1.out]; rfl, ⟨m + m1, by first | rfl | simp [World.drewN, Nat.add_assoc]⟩⟩
   ·by_cases h2 : x > y
    ·have HC1 : Aside0 (∀ w, Calls Tryz.prog 96 #[.int .i64 x, .int .i64 y] w fun e w' => e = .returned (.int .i64 1) ∧ Drawn0 w w') := ⟨fun w => by have := HC.out w; rwa [if_neg h1, if_pos h2] at this⟩
     have HS1 := Aside0.mk (HS.out.trans ((if_neg h1).trans (if_pos h2)))
     clear h1 h2 HC HS
     go_wp2_with (go_at_call 96; (with_reducible refine (HC1.out _).mono ?_); rintro e w1 ⟨rfl, ⟨m1, rfl⟩⟩)
     go_ret
     exact ⟨by rw [HS1.out]; rfl, ⟨m + m1, by first | rfl | simp [World.drewN, Nat.add_assoc]⟩⟩
    ·have HC1 : Aside0 (∀ w, Calls Tryz.prog 96 #[.int .i64 x, .int .i64 y] w fun e w' => e = .returned (.int .i64 0) ∧ Drawn0 w w') := ⟨fun w => by have := HC.out w; rwa [if_neg h1, if_neg h2] at this⟩
     have HS1 := Aside0.mk (HS.out.trans ((if_neg h1).trans (if_neg h2)))
     clear h1 h2 HC HS
     go_wp2_with (go_at_call 96; (with_reducible refine (HC1.out _).mono ?_); rintro e w1 ⟨rfl, ⟨m1, rfl⟩⟩)
     obtain ⟨g2, hg2⟩ : ∃ g2, g2 = gk - 1 := ⟨_, rfl⟩
     go_roundg g2
     case measure => have := HK.out; omega
     case rel => exact ⟨k + 1, by go_num, ⟨by have := HK.out; omega⟩, ⟨⟨m + m1, by simp⟩⟩, HS1⟩
  ·have hkd : decide (k < n) = false := decide_eq_false hk
   have hki : ¬ (k : Int) < (n : Int) := by omega
   have hnn : ¬ (n : Int) < (n : Int) := by omega
   have HS1 : Aside0 (r = 0) := ⟨by
    have : k = n := by have := HK.out; omega
    rw [HQ.out, this, plainO_end]; rfl⟩
   go_wp2
   go_ret
   exact ⟨by rw [HS1.out]; rfl, ⟨m, rfl⟩⟩
end Go.Proofs.YtcmllllbmgcnlaaGreat.Rl
end
section
namespace Go.Proofs.YtcmllllbmgcnlaaGreat.Rl
open Go.RowKit Go.Lib Go.Shelf Go.Proofs.YtcmllllbmgcnlaaGreat.G Go.Proofs.YtcmllllbmgcnlaaGreat.Tup Go.Proofs.YtcmllllbmgcnlaaGreatW.PrintWords Go.Proofs.YtcmllllbmgcnlaaGreatW.PrintLast Go.Proofs.YtcmllllbmgcnlaaGreatW.PrintMore
set_option linter.unusedVariables false
set_option linter.unusedSimpArgs false
theorem op_round {P : Program} {ops : Array Oper} {Q : Exit → Act → World → Prop} {l n : Nat} (hL : ¬ LetsOut Q) {i : Nat} (hd : ∀ o, ops[i]? = some o → ∀ c, o.op ≠ .defer c) {K K' : Act → World → Prop} {a : Act} {w : World} (h : wpOp P ops Q i K a w) (hK : ∀ a w, K a w → K' a w) : wpOpIn (Fence.wide.inRound l) n P ops Q i K' a w := by
 unfold wpOp at h
 unfold wpOpIn
 cases ho : ops[i]? with
 | none => rw [ho] at h; exact hK _ _ h
 | some o =>
  rw [ho] at h
  dsimp only at h ⊢
  split
  ·rename_i hw
   rw [if_pos hw] at h
   rcases h with h | h
   ·refine ⟨fun f _ => trivial, ?_⟩
    rw [Oper.semAt_eq _ _ _ (hd o ho)]
    unfold Oper.wp at h
    generalize (execOp a.eval o).run P w = r at h ⊢
    cases r with
    | ok x w' =>
     cases x <;> simp only [Oper.upon, Oper.uponIn] at h ⊢
     case value u => exact hK _ _ h
     case skip => exact hK _ _ h
     case defer d => exact hK _ _ h
     case enter f args =>
      refine ⟨(fun h => Bool.noConfusion h), (callsIn_wide (n := n - 1)).2 (h.mono fun e w'' he => ?_)⟩
      cases e with
      | returned v => exact hK _ _ he
      | panicked c => exact he
      | outgrown => exact he
     case row row args => exact ⟨(fun h => Bool.noConfusion h), fun c cs _ => let ⟨v, w', r, s⟩ := h c cs; ⟨v, w', hK _ _ r, stepsIn_wide.2 s⟩⟩
    | halt x w' =>
     cases x <;> simp only [Oper.upon, Oper.uponIn] at h ⊢
     case panic u => exact h
   ·exact absurd h.2 hL
  ·rename_i hw
   rw [if_neg hw] at h
   exact ⟨fun f _ => trivial, hK _ _ h⟩
theorem any_round {P : Program} {md : Region.Mode} {ops : Array Oper} {Q : Exit → Act → World → Prop} {l n : Nat} (hL : ¬ LetsOut Q) (hd : ∀ (i : Nat) (o : Oper), ops[i]? = some o → ∀ c, o.op ≠ Op.defer c) : ∀ (fuel : Nat) (listed : Array Bool) (a : Act) (w : World), wpAny P md ops Q fuel listed a w → wpAnyIn (Fence.wide.inRound l) n P md ops Q fuel listed a w
 | 0, _, _, _, h => h
 | fuel + 1, listed, a, w, h => ⟨h.1, fun i hi => op_round hL (hd i) (h.2 i hi) fun a w h => any_round hL hd fuel _ a w h⟩
def noDefer (o : Oper) : Bool := match o.op with
 | .defer _ => false
 | _ => true
theorem region_round {P : Program} {S : World → Prop} {ops : Array Oper} {id : Nat} {Q : Exit → Act → World → Prop} {a : Act} {w : World} {l n : Nat} (hm : P.follows .mixedOrders = true) (hd : ops.all noDefer = true) (hL : ¬ LetsOut Q) (hS : S w.drew) (h : S w.drew → wpAnyH P .any ops Q S ops.size (Array.replicate ops.size false) a w.drew) : (Code.region id ops true).wpIn (Fence.wide.inRound l) n P Q a w :=
 wpIn_region_any hm (any_round hL (fun i o ho c e => by
  have h1 := Array.all_eq_true.1 hd i (Array.getElem?_eq_some_iff.1 ho).1
  rw [(Array.getElem?_eq_some_iff.1 ho).2] at h1
  simp [noDefer, e] at h1) _ _ _ _ (wpAny_of_held _ _ _ _ (h hS)))
end Go.Proofs.YtcmllllbmgcnlaaGreat.Rl
end
section
namespace Go.Proofs.YtcmllllbmgcnlaaGreat.Rl
open Go.RowKit Go.Lib Go.Shelf Go.Proofs.YtcmllllbmgcnlaaGreat.G Go.Proofs.YtcmllllbmgcnlaaGreat.Tup Go.Proofs.YtcmllllbmgcnlaaGreatW.PrintWords Go.Proofs.YtcmllllbmgcnlaaGreatW.PrintLast Go.Proofs.YtcmllllbmgcnlaaGreatW.PrintMore
set_option linter.unusedVariables false
set_option linter.unusedSimpArgs false
attribute [local go_sem] Oper.semAt_some
structure Elt where
 A : Option Addr
 c : Nat
 t : Tp
 n : Int × Int
def Elt.v (e : Elt) : Value := .slice e.A e.t.length e.c
def Elt.enc (e : Elt) : List Value := [e.v, noteV e.n]
def Elt.At (e : Elt) (W : World) (base : Nat) : Prop := W.ownsRow base 3 1 e.v e.t.length (e.t.map (Value.int .i64))
def Elt.ne (e f : Elt) : Prop := ∀ k, e.v.ownBlock = some k → f.v.ownBlock ≠ some k
def CollI (w : World) (B Br br : Nat) (R : List Row) (N : Nat) (pre : List Tp) (W : World) : Prop :=
 ∃ (A : Option Addr) (c : Nat) (es : List Elt), Boxed W B 137 (.slice A pre.length c) ∧ Boxed W Br 24 (.pointer (some ⟨br, 0, none⟩)) ∧ N ≤ W.heap.size ∧ W.ownsRow N 139 2 (.slice A pre.length c) pre.length (es.flatMap Elt.enc) ∧ es.map Elt.t = pre ∧ (∀ e ∈ es, lookF R e.t = some e.n) ∧ (∀ e ∈ es, e.At W w.heap.size) ∧ es.Pairwise Elt.ne ∧ Below w.heap.size w W
theorem infoR : (Tryz.prog.info? 139).map (fun i => (i.zero, i.size, i.bytes)) = some (some (.agg #[.slice none 0 0, .complex .f64 0 0]), 2, 40) := by kernel_rfl
theorem flat_v : ∀ (es es0 : List Elt), es.flatMap Elt.enc = es0.flatMap Elt.enc → es.map Elt.v = es0.map Elt.v
 | [], [], _ => rfl
 | [], e :: es, h => by simp [Elt.enc] at h
 | e :: es, [], h => by simp [Elt.enc] at h
 | e :: es, f :: fs, h => by
  simp only [List.flatMap_cons, Elt.enc, List.cons_append, List.nil_append, List.cons.injEq] at h
  rw [List.map_cons, List.map_cons, h.1, flat_v es fs h.2.2]
theorem Elt.At.isInts {e : Elt} {W : World} {b : Nat} (h : e.At W b) : ∀ k, e.v.ownBlock = some k → IsInts W k := fun k hk => by
 obtain ⟨cells, hc⟩ := own_typed h k hk
 exact ⟨_, _, hc⟩
theorem Elt.At.move {e : Elt} {W W1 : World} {b : Nat} (h : e.At W b) (hm : ∀ k, IsInts W k → W1.heap[k]? = W.heap[k]?) : e.At W1 b := own_move h fun k hk => hm k (h.isInts k hk)
theorem collI_own (w : World) (B Br br : Nat) (R : List Row) (N M : Nat) (hB : w.heap.size ≤ M) : OwnFrom M (CollI w B Br br R N) := by
 rintro pre X Y row ⟨A, c, es, hb, hbr, hNX, ho, ht, hl, ha, hp, hB0⟩ hg hr
 have hr' : ∀ r, row = some r → ∃ o : Obj, X.heap[r]? = some o ∧ o.isCells = false := fun r e => (hr r e).2
 refine ⟨A, c, es, (isCells_kept ⟨_, hb, rfl⟩ hg hr').1.trans hb, (isCells_kept ⟨_, hbr, rfl⟩ hg hr').1.trans hbr, Nat.le_trans hNX hg.size, own_move ho fun k hk => ?_, ht, hl, fun e he => (ha e he).move fun k hk => (isCells_kept hk.cells hg hr').1, hp, hB0.grown hg hB0.size (fun k e => by have := (hr k e).1; omega)⟩
 obtain ⟨cells, hc⟩ := own_typed ho k hk
 exact (isCells_kept ⟨_, hc, rfl⟩ hg hr').1
theorem coll_lt {W0 W1 : World} {N0 N1 n : Nat} {A : Option Addr} {c : Nat} {es es0 : List Elt} {base : Nat} (h0 : W0.ownsRow N0 139 2 (.slice A n c) n (es0.flatMap Elt.enc)) (h1 : W1.ownsRow N1 139 2 (.slice A n c) n (es.flatMap Elt.enc)) (hb : Below W0.heap.size W0 W1) (ha : ∀ e ∈ es0, e.At W0 base) : ∀ e ∈ es, ∀ k, e.v.ownBlock = some k → k < W0.heap.size := by
 have hE : es.flatMap Elt.enc = es0.flatMap Elt.enc := by
  have hl0 := h0.1
  have hl1 := h1.1
  rcases h0.2 with ⟨e0, hn⟩ | ⟨g, cap, cur, e0, hbg, hg, _, _, _, htk⟩
  ·subst hn
   rw [List.length_eq_zero_iff.1 (show (es.flatMap Elt.enc).length = 0 by omega), List.length_eq_zero_iff.1 (show (es0.flatMap Elt.enc).length = 0 by omega)]
  ·rcases h1.2 with ⟨e1, hn⟩ | ⟨g1, cap1, cur1, e1, hbg1, hg1, _, _, _, htk1⟩
   ·subst hn
    rw [List.length_eq_zero_iff.1 (show (es.flatMap Elt.enc).length = 0 by omega), List.length_eq_zero_iff.1 (show (es0.flatMap Elt.enc).length = 0 by omega)]
   ·rw [e0] at e1
    injection e1 with e1 _ e2
    injection e1 with e1
    injection e1 with e1 _ _
    subst e1
    have := (hb.block g (Array.getElem?_eq_some_iff.1 hg).1).trans hg
    rw [hg1] at this
    injection this with this
    injection this with h3 _ _
    rw [← htk1, ← htk, h3]
 intro e he k hk
 have hv := flat_v _ _ hE
 have : e.v ∈ es0.map Elt.v := by rw [← hv]; exact List.mem_map.2 ⟨e, he, rfl⟩
 obtain ⟨e0, he0, ev⟩ := List.mem_map.1 this
 exact Tup.own_lt (ha e0 he0) k (by rw [ev]; exact hk.symm)
theorem collI_more {w W w5 w7 : World} {B Br br N : Nat} {R : List Row} {pre : List Tp} {x : Tp} {A A2 : Option Addr} {c c2 g' cap' : Nat} {es : List Elt} {nn : Int × Int} {b0 : Nat} (hBr : w.heap.size ≤ Br) (hrB : Br < B) (hBN : B < N) (hNW : N ≤ W.heap.size) (hb : Boxed W B 137 (.slice A pre.length c)) (hbr : Boxed W Br 24 (.pointer (some ⟨br, 0, none⟩))) (ho : W.ownsRow N 139 2 (.slice A pre.length c) pre.length (es.flatMap Elt.enc)) (ht : es.map Elt.t = pre) (hl : ∀ e ∈ es, lookF R e.t = some e.n) (ha : ∀ e ∈ es, e.At W w.heap.size) (hp : es.Pairwise Elt.ne) (hB0 : Below w.heap.size w W)
  (hlt : ∀ e ∈ es, ∀ k, e.v.ownBlock = some k → k < b0) (hwb : w.heap.size ≤ b0) (hh : W.ownsRow b0 3 1 (.slice A2 x.length c2) x.length (x.map (Value.int .i64))) (hx : lookF R x = some nn) (hs : Since W w5)
  (hown' : w7.ownsRow N 139 2 (.slice (some ⟨g', 0, none⟩) (pre.length + 1) cap') (pre.length + 1) (es.flatMap Elt.enc ++ [.slice A2 x.length c2, .complex .f64 (nf nn.1) (nf nn.2)])) (hgrow : (w5.alloc (.cells #[.slice A2 x.length c2, .complex .f64 (nf nn.1) (nf nn.2)] 139)).grownBy w7 (Value.slice A pre.length c).ownBlock) :
  CollI w B Br br R N (pre ++ [x]) (w7.setCell ⟨B, 0, none⟩ (.slice (some ⟨g', 0, none⟩) (pre.length + 1) cap')) ∧ KeepsOthers W (w7.setCell ⟨B, 0, none⟩ (.slice (some ⟨g', 0, none⟩) (pre.length + 1) cap')) ∧ (∀ k, k < N → k ≠ B → (w7.setCell ⟨B, 0, none⟩ (.slice (some ⟨g', 0, none⟩) (pre.length + 1) cap')).heap[k]? = W.heap[k]?) ∧ W.heap.size ≤ (w7.setCell ⟨B, 0, none⟩ (.slice (some ⟨g', 0, none⟩) (pre.length + 1) cap')).heap.size := by
 have hs5 := hs.b.size
 have hb5 : Boxed w5 B 137 (.slice A pre.length c) := blk hs.b hb
 have ho5 : w5.ownsRow N 139 2 (.slice A pre.length c) pre.length (es.flatMap Elt.enc) := own_move ho fun k hk => hs.b.block k (Tup.own_lt ho k hk.symm)
 have hv1 : Boxed w7 B 137 (.slice A pre.length c) := (hb5.alloc _).kept hgrow (hb5.not_row (by decide) ho5)
 have hv2 := hv1.set (.slice (some ⟨g', 0, none⟩) (pre.length + 1) cap')
 have hr2 := hown'.kept (grownBy_setCell' w7 B (.slice (some ⟨g', 0, none⟩) (pre.length + 1) cap')) (.inr (hv1.not_row (by decide) hown').symm)
 have hk2 : KeepsOthers W (w7.setCell ⟨B, 0, none⟩ (.slice (some ⟨g', 0, none⟩) (pre.length + 1) cap')) := by
  refine (((KeepsOthers.of_grownBy (row := none) ⟨hs.b.os, hs.b.tape, hs.b.output, hs.b.size, fun k hk _ => hs.b.block k hk⟩ fun j o ej _ => by cases ej).trans (KeepsOthers.alloc w5 (.cells #[.slice A2 x.length c2, .complex .f64 (nf nn.1) (nf nn.2)] 139))).trans (KeepsOthers.of_grownBy hgrow fun j o ej hj => ?_)).trans (KeepsOthers.setCell _ _ _)
  obtain ⟨cells, hc⟩ := own_typed (ho5.alloc (.cells #[.slice A2 x.length c2, .complex .f64 (nf nn.1) (nf nn.2)] 139)) j ej
  rw [hc] at hj; cases hj; rfl
 have hb2 : Below w.heap.size W (w7.setCell ⟨B, 0, none⟩ (.slice (some ⟨g', 0, none⟩) (pre.length + 1) cap')) := by
  refine ((((hs.b.mono (by have := hB0.size; omega)).alloc (by have := hB0.size; omega) (.cells #[.slice A2 x.length c2, .complex .f64 (nf nn.1) (nf nn.2)] 139)).grown hgrow (by simp; have := hB0.size; omega) fun j ej => ?_)).setCell (p := ⟨B, 0, none⟩) (by show w.heap.size ≤ B; omega) _
  exact Nat.le_trans (by omega) (own_ge ho j ej.symm)
 obtain ⟨V, hV⟩ : ∃ V, V = w7.setCell ⟨B, 0, none⟩ (.slice (some ⟨g', 0, none⟩) (pre.length + 1) cap') := ⟨_, rfl⟩
 have hasz : w5.heap.size ≤ (w5.alloc (.cells #[.slice A2 x.length c2, .complex .f64 (nf nn.1) (nf nn.2)] 139)).heap.size := by simp
 have hblk : ∀ k, k ≠ B → some k ≠ (Value.slice A pre.length c).ownBlock → k < W.heap.size → V.heap[k]? = W.heap[k]? := fun k h1 h2 h3 => by
  rw [hV, Below.heap_setCell _ _ _ _ h1, hgrow.block k (by omega) h2, Below.heap_alloc _ _ _ (by omega), hs.b.block k h3]
 rw [← hV] at hv2 hr2 hk2 hb2 ⊢
 have hint : ∀ k, IsInts W k → V.heap[k]? = W.heap[k]? := fun k ⟨cs, fr, hk⟩ => hblk k (fun e => by
  subst e
  have hb' : W.heap[k]? = _ := hb
  rw [hk] at hb'
  injection hb' with hb'
  injection hb' with _ h3 _
  exact absurd h3 (by decide)) (fun e => by
  obtain ⟨cells, hc⟩ := own_typed ho k e.symm
  rw [hk] at hc
  injection hc with hc
  injection hc with _ h3 _
  exact absurd h3 (by decide)) (Array.getElem?_eq_some_iff.1 hk).1
 have hxe : (⟨A2, c2, x, nn⟩ : Elt).At W w.heap.size := own_weaken hh hwb
 refine ⟨⟨some ⟨g', 0, none⟩, cap', es ++ [⟨A2, c2, x, nn⟩], by simpa using hv2, (hblk Br (by omega) (fun e => by have := own_ge ho Br e; omega) (by omega)).trans hbr, Nat.le_trans hNW hb2.size, by simpa [Elt.enc, Elt.v, noteV] using hr2, by simp [ht], ?_, ?_, ?_, hB0.trans hb2⟩, hk2, fun k hk hkB => hblk k hkB (fun e => by have := own_ge ho k e; omega) (by omega), hb2.size⟩
 ·intro e he
  rcases List.mem_append.1 he with he | he
  ·exact hl e he
  ·rw [List.mem_singleton] at he; subst he; exact hx
 ·intro e he
  rcases List.mem_append.1 he with he | he
  ·exact (ha e he).move hint
  ·rw [List.mem_singleton] at he; subst he; exact hxe.move hint
 ·rw [List.pairwise_append]
  refine ⟨hp, by simp, fun e he f hf k hk hk' => ?_⟩
  rw [List.mem_singleton] at hf; subst hf
  have h1 := hlt e he k hk
  have h2 := own_ge hh k hk'.symm
  omega
end Go.Proofs.YtcmllllbmgcnlaaGreat.Rl
end
section
namespace Go.Proofs.YtcmllllbmgcnlaaGreat.Rl
open Go.Shelf Go.Sort Go.Lib Go.RowKit Go.Proofs.YtcmllllbmgcnlaaGreat.G Go.Proofs.YtcmllllbmgcnlaaGreat.Tup Go.Proofs.YtcmllllbmgcnlaaGreatW.PrintWords Go.Proofs.YtcmllllbmgcnlaaGreatW.PrintLast Go.Proofs.YtcmllllbmgcnlaaGreatW.PrintMore
set_option linter.unusedVariables false
set_option linter.unusedSimpArgs false
def Tryz.sortRow_ren : Go.Shelf.Ren := ⟨fun | 6 => 71 | 15 => 95 | 14 => 94 | 28 => 120 | 29 => 121 | 20 => 112 | 21 => 113 | 22 => 114 | 23 => 115 | 24 => 116 | 25 => 117 | 26 => 118 | 27 => 119 | 46 => 129 | 47 => 130 | 48 => 131 | 49 => 132 | 50 => 133 | 57 => 145 | n => n, fun | 22 => 137 | 24 => 139 | 25 => 142 | 3 => 3 | 39 => 136 | 0 => 0 | 53 => 154 | 55 => 156 | 4 => 4 | 46 => 173 | 45 => 172 | 50 => 101 | 5 => 5 | 9 => 9 | 66 => 181 | 70 => 185 | 76 => 195 | 77 => 119 | n => n, fun | n => n⟩
theorem Tryz.sortRow : Go.Proofs.SlLaysF0.n6 Tryz.prog Tryz.sortRow_ren := {
 mixed := by kernel_rfl
 f6 := ⟨Tryz.f71.name, by decide, Tryz.func71.trans (congrArg some (by kernel_rfl))⟩
 f14 := ⟨Tryz.f94.name, by decide, Tryz.func94.trans (congrArg some (by kernel_rfl))⟩
 f15 := Tryz.func95.trans (congrArg some (by kernel_rfl))
 f20 := ⟨Tryz.f112.name, by decide, Tryz.func112.trans (congrArg some (by kernel_rfl))⟩
 f21 := ⟨Tryz.f113.name, by decide, Tryz.func113.trans (congrArg some (by kernel_rfl))⟩
 f22 := ⟨Tryz.f114.name, by decide, Tryz.func114.trans (congrArg some (by kernel_rfl))⟩
 f23 := ⟨Tryz.f115.name, by decide, Tryz.func115.trans (congrArg some (by kernel_rfl))⟩
 f24 := ⟨Tryz.f116.name, by decide, Tryz.func116.trans (congrArg some (by kernel_rfl))⟩
 f25 := ⟨Tryz.f117.name, by decide, Tryz.func117.trans (congrArg some (by kernel_rfl))⟩
 f26 := ⟨Tryz.f118.name, by decide, Tryz.func118.trans (congrArg some (by kernel_rfl))⟩
 f27 := ⟨Tryz.f119.name, by decide, Tryz.func119.trans (congrArg some (by kernel_rfl))⟩
 f28 := Tryz.func120.trans (congrArg some (by kernel_rfl))
 f29 := Tryz.func121.trans (congrArg some (by kernel_rfl))
 f46 := ⟨Tryz.f129.name, by decide, Tryz.func129.trans (congrArg some (by kernel_rfl))⟩
 f47 := Tryz.func130.trans (congrArg some (by kernel_rfl))
 f48 := Tryz.func131.trans (congrArg some (by kernel_rfl))
 f49 := ⟨Tryz.f132.name, by decide, Tryz.func132.trans (congrArg some (by kernel_rfl))⟩
 f50 := ⟨Tryz.f133.name, by decide, Tryz.func133.trans (congrArg some (by kernel_rfl))⟩
 f57 := ⟨Tryz.f145.name, by decide, Tryz.func145.trans (congrArg some (by kernel_rfl))⟩
 t0 := Tryz.underlying0
 a0 := Tryz.isAgg0
 z0 := Tryz.sizeOf0
 v0 := Tryz.zeroValue0
 t3 := Tryz.underlying3
 a3 := Tryz.isAgg3
 z3 := Tryz.sizeOf3
 v3 := Tryz.zeroValue3
 t4 := Tryz.underlying4
 a4 := Tryz.isAgg4
 z4 := Tryz.sizeOf4
 v4 := Tryz.zeroValue4
 t5 := Tryz.underlying5
 a5 := Tryz.isAgg5
 z5 := Tryz.sizeOf5
 v5 := Tryz.zeroValue5
 t9 := Tryz.underlying9
 a9 := Tryz.isAgg9
 z9 := Tryz.sizeOf9
 v9 := Tryz.zeroValue9
 t22 := Tryz.underlying137
 a22 := Tryz.isAgg137
 z22 := Tryz.sizeOf137
 v22 := Tryz.zeroValue137
 t25 := Tryz.underlying142
 a25 := Tryz.isAgg142
 z25 := Tryz.sizeOf142
 v25 := Tryz.zeroValue142
 t39 := Tryz.underlying136
 a39 := Tryz.isAgg136
 z39 := Tryz.sizeOf136
 v39 := Tryz.zeroValue136
 t45 := Tryz.underlying172
 a45 := Tryz.isAgg172
 z45 := Tryz.sizeOf172
 v45 := Tryz.zeroValue172
 t46 := Tryz.underlying173
 a46 := Tryz.isAgg173
 z46 := Tryz.sizeOf173
 v46 := Tryz.zeroValue173
 t50 := Tryz.underlying101
 a50 := Tryz.isAgg101
 z50 := Tryz.sizeOf101
 v50 := Tryz.zeroValue101
 t53 := Tryz.underlying154
 a53 := Tryz.isAgg154
 z53 := Tryz.sizeOf154
 v53 := Tryz.zeroValue154
 t55 := Tryz.underlying156
 a55 := Tryz.isAgg156
 z55 := Tryz.sizeOf156
 v55 := Tryz.zeroValue156
 t66 := Tryz.underlying181
 a66 := Tryz.isAgg181
 z66 := Tryz.sizeOf181
 v66 := Tryz.zeroValue181
 t70 := Tryz.underlying185
 a70 := Tryz.isAgg185
 z70 := Tryz.sizeOf185
 v70 := Tryz.zeroValue185
 t76 := Tryz.underlying195
 a76 := Tryz.isAgg195
 z76 := Tryz.sizeOf195
 v76 := Tryz.zeroValue195
 t77 := Tryz.underlying119
 a77 := Tryz.isAgg119
 z77 := Tryz.sizeOf119
 v77 := Tryz.zeroValue119 }
abbrev Good (wd : Nat) (W : World) : Type := { e : Elt // e.t.length = wd ∧ e.At W 0 }
def Good.enc {wd : Nat} {W : World} (e : Good wd W) : List Value := e.1.enc
def Good.cf {wd : Nat} {W : World} (a b : Good wd W) : Int := cmpL (plainO wd) a.1.t b.1.t
theorem Elt.At.weaken {e : Elt} {W : World} {b b' : Nat} (h : e.At W b) (hb : b' ≤ b) : e.At W b' := own_weaken h hb
theorem flat_get {α : Type} (enc : α → List Value) (hk : ∀ x, (enc x).length = 2) : ∀ (L : List α) (t : Nat), (L.flatMap enc)[t]? = (L[t / 2]?).bind fun x => (enc x)[t % 2]?
 | [], t => by simp
 | x :: L, 0 => by
  rw [List.flatMap_cons, List.getElem?_append_left (by rw [hk]; decide)]; rfl
 | x :: L, 1 => by
  rw [List.flatMap_cons, List.getElem?_append_left (by rw [hk]; decide)]; rfl
 | x :: L, t + 2 => by
  rw [List.flatMap_cons, List.getElem?_append_right (by rw [hk]; omega), hk, Nat.add_sub_cancel, flat_get enc hk L t, show (t + 2) / 2 = t / 2 + 1 from by omega, show (t + 2) % 2 = t % 2 from by omega]
  simp
theorem flat_len {α : Type} (enc : α → List Value) (hk : ∀ x, (enc x).length = 2) : ∀ (L : List α), (L.flatMap enc).length = L.length * 2
 | [] => rfl
 | x :: L => by rw [List.flatMap_cons, List.length_append, hk, flat_len enc hk L, List.length_cons]; omega
theorem flatK_list {α : Type} [Inhabited α] (enc : α → List Value) (hk : ∀ x, (enc x).length = 2) (d : Array α) : flatK enc 2 d = (d.toList.flatMap enc).toArray := by
 refine Array.ext ?_ fun t h1 h2 => ?_
 ·rw [size_flatK]; simp [flat_len enc hk]
 ·have hs : t < d.size * 2 := by simpa using h1
  have := get_flatK enc 2 d t hs
  rw [getElem!_pos _ t h1] at this
  rw [this]
  have h3 := flat_get enc hk d.toList t
  have ht2 : t / 2 < d.size := by omega
  have h5 : d.toList[t / 2]? = some (d[t / 2]'ht2) := by simp [ht2]
  rw [h5, Option.bind_some] at h3
  have hm : t % 2 < (enc d[t / 2]).length := by rw [hk]; omega
  rw [List.getElem?_eq_getElem hm] at h3
  have h4 := (List.getElem?_eq_some_iff.1 h3).2
  simp only [List.getElem_toArray]
  have h6 : d[t / 2]! = d[t / 2]'ht2 := by simp [ht2]
  rw [h4, h6]
  simp [hm]
theorem holds2 {W : World} {base e g n cap : Nat} {us : List Value} (h : W.ownsRow base e 2 (.slice (some ⟨g, 0, none⟩) n cap) n us) : g < W.heap.size ∧ Holds id W g 0 us.toArray := by
 rcases h.2 with ⟨e0, _⟩ | ⟨g', cap', cur, e0, hb, hg, hn, hm, hs, ht⟩
 ·cases e0
 ·injection e0 with e1 _ e3
  injection e1 with e1
  injection e1 with e1
  subst e1 e3
  refine ⟨(Array.getElem?_eq_some_iff.1 hg).1, fun j hj => ?_⟩
  have hj' : j < us.length := by simpa using hj
  have hl := h.1
  refine ⟨?_, by simp [World.frozen?, hg]⟩
  have e1 : (cur.toList.take (n * 2))[j]? = us[j]? := by rw [ht]
  rw [List.getElem?_take, if_pos (by omega), Array.getElem?_toList] at e1
  simp only [World.cell?, hg, Nat.zero_add]
  simp only [Option.isSome_none, Bool.false_eq_true, if_false]
  rw [e1]
  simp [getElem!_pos, hj']
theorem put2 {W : World} {base e g n cap q : Nat} {us ys : List Value} (h : W.ownsRow base e 2 (.slice (some ⟨g, 0, none⟩) n cap) n us) (hy : ys.length = us.length) :
  (putRow id (Sort.ahead W q) g 0 ys.toArray).ownsRow base e 2 (.slice (some ⟨g, 0, none⟩) n cap) n ys := by
 have hl := h.1
 rcases h.2 with ⟨e0, _⟩ | ⟨g', cap', cur, e0, hb, hg, hn, hm, hs, ht⟩
 ·cases e0
 ·injection e0 with e1 _ e3
  injection e1 with e1
  injection e1 with e1
  subst e1 e3
  refine ⟨by omega, .inr ⟨g, cap, putCells id 0 ys.toArray cur, rfl, hb, ?_, hn, hm, by simpa [putCells] using hs, ?_⟩⟩
  ·simp [putRow, mapBlock, Sort.ahead, Array.getElem?_modify, hg, onCells]
  ·apply List.ext_getElem?
   intro j
   rw [List.getElem?_take, Array.getElem?_toList]
   by_cases hj : j < n * 2
   ·have hjc : j < cur.size := by have := Nat.mul_le_mul_right 2 hn; omega
    simp only [if_pos hj, putCells, Array.getElem?_mapIdx, Array.getElem?_eq_getElem hjc, Option.map_some]
    rw [if_pos (by simp; omega), List.getElem?_eq_getElem (by omega)]
    simp [getElem!_pos, show j < ys.length by omega]
   ·rw [if_neg hj, List.getElem?_eq_none (by omega)]
theorem put2_other (W : World) (g q : Nat) (d : Array Value) (k : Nat) (hk : k ≠ g) : (putRow id (Sort.ahead W q) g 0 d).heap[k]? = W.heap[k]? := by
 simp [putRow, mapBlock, Sort.ahead, Array.getElem?_modify, Ne.symm hk]
theorem put2_size (W : World) (g q : Nat) (d : Array Value) : (putRow id (Sort.ahead W q) g 0 d).heap.size = W.heap.size := by
 simp [putRow, mapBlock, Sort.ahead]
theorem cmpL_swo (wd : Nat) (W : World) : SWO (ltOf (Good.cf (wd := wd) (W := W))) where
 irrefl x := by
  have : cmpL (plainO wd) x.1.t x.1.t = 0 := (cmpL_zero _ _ _).2 fun _ _ => rfl
  simp [ltOf, Good.cf, this]
 trans x y z h1 h2 := decide_eq_true (Lt.trans (o := plainO wd) (of_decide_eq_true h1) (of_decide_eq_true h2))
 ntrans x y z h1 h2 := by
  have h1' : ¬ cmpL (plainO wd) x.1.t y.1.t < 0 := of_decide_eq_false h1
  have h2' : ¬ cmpL (plainO wd) y.1.t z.1.t < 0 := of_decide_eq_false h2
  refine decide_eq_false (show ¬ cmpL (plainO wd) x.1.t z.1.t < 0 from ?_)
  have e1 := cmpL_flip (plainO wd) x.1.t y.1.t
  have e2 := cmpL_flip (plainO wd) y.1.t z.1.t
  have e3 := cmpL_flip (plainO wd) x.1.t z.1.t
  have := cmpL_trans (plainO wd) z.1.t y.1.t x.1.t (by omega) (by omega)
  omega
set_option maxHeartbeats 4000000 in
set_option maxRecDepth 100000 in
theorem cmp1_calls (V : World) (wd : Nat) (h8 : wd ≤ 1000) (A : Option Addr) (c : Nat) (t : Tp) (n1 n2 : Nat) (B : Option Addr) (d : Nat) (s : Tp) (m1 m2 : Nat) (ht : Sl V A c t) (hs : Sl V B d s) (hlt : t.length = wd) (hls : s.length = wd) :
  Calls Tryz.prog 72 #[.agg #[.slice A wd c, .complex .f64 n1 n2], .agg #[.slice B wd d, .complex .f64 m1 m2]] V fun e w' => e = .returned (.int .i64 (cmpL (plainO wd) t s)) ∧ ∃ q os', w' = grow (V.drewN q) os' := by
 obtain ⟨r, hr⟩ : ∃ r, r = cmpL (plainO wd) t s := ⟨_, rfl⟩
 have HC := Aside0.mk (fun (w2 : World) (hb : Below V.heap.size V w2) => compare_calls w2 wd A c t B d s (ht.below hb) (hs.below hb) hlt hls h8)
 rw [← hr] at HC ⊢
 clear ht hs hlt hls hr
 go_enter Tryz.func72, Tryz.ntmps72
 have hb2 : Below V.heap.size V ((V.alloc (.cells #[.slice A wd c, .complex .f64 n1 n2] 139)).alloc (.cells #[.slice B wd d, .complex .f64 m1 m2] 139)) := below_alloc (below_alloc (Below.refl _ _) _) _
 have HB2 := Aside0.mk hb2
 clear hb2
 go_wp2_with (go_at_call 73; refine (HC.out _ HB2.out).mono ?_; rintro e w' ⟨rfl, ⟨q, rfl⟩⟩)
 go_ret
 refine ⟨rfl, q, #[.cells #[.slice A wd c, .complex .f64 n1 n2] 139, .cells #[.slice B wd d, .complex .f64 m1 m2] 139], ?_⟩
 rw [alloc_eq_grow, alloc_eq_grow, grow_grow]
 rfl
theorem own_sl {V : World} {base c : Nat} {A : Option Addr} {t : Tp} (h : V.ownsRow base 3 1 (.slice A t.length c) t.length (t.map (Value.int .i64))) : Sl V A c t := by
 obtain ⟨A', c', e, hle, hF⟩ := rows_in (d := Kd.int .i64) (ok := fun _ => False) rfl h (Els.of (by simp) fun i hi hu => by rw [List.getElem_map]; exact fun W' _ => rfl) rfl
 injection e with e1 e2 e3
 subst e1 e3
 exact ⟨Kd.F_now hF, hle⟩
theorem sort_some (W : World) (wd base N g n cap : Nat) (h8 : wd ≤ 1000) (es : List Elt) (h : W.ownsRow N 139 2 (.slice (some ⟨g, 0, none⟩) n cap) n (es.flatMap Elt.enc)) (hes : ∀ e ∈ es, e.At W base) (hlen : ∀ e ∈ es, e.t.length = wd) (hn : es.length = n) (hn2 : n ≤ 1024) :
  Calls Tryz.prog 71 #[.slice (some ⟨g, 0, none⟩) n cap, .func (.func 72) #[] #[]] W fun e w' => e = .returned (.tuple #[]) ∧ ∃ fs : List Elt, fs.Perm es ∧ (fs.Pairwise fun a b => ¬ Lt (plainO wd) b.t a.t) ∧ w'.ownsRow N 139 2 (.slice (some ⟨g, 0, none⟩) n cap) n (fs.flatMap Elt.enc) ∧ W.grownBy w' (some g) := by
 cases es with
 | nil =>
  simp at hn
  subst hn
  refine (AnyF.slices_SortFunc_none { Tryz.sortRow with } (some ⟨g, 0, none⟩) cap _ W).mono ?_
  rintro e w' ⟨rfl, rfl⟩
  exact ⟨rfl, [], .refl _, List.Pairwise.nil, h, ⟨rfl, rfl, rfl, Nat.le_refl _, fun _ _ _ => rfl⟩⟩
 | cons e0 es =>
  have g0 : Good wd W := ⟨e0, hlen e0 (by simp), (hes e0 (by simp)).weaken (Nat.zero_le _)⟩
  letI : Inhabited (Good wd W) := ⟨g0⟩
  obtain ⟨gs, hgs⟩ : ∃ gs : List (Good wd W), gs.map (·.1) = e0 :: es := ⟨(e0 :: es).attach.map fun e => (⟨e.1, hlen e.1 e.2, (hes e.1 e.2).weaken (Nat.zero_le _)⟩ : Good wd W), by
   rw [List.map_map]
   show List.map (fun e : { x // x ∈ e0 :: es } => e.1) (e0 :: es).attach = _
   exact List.attach_map_subtype_val _⟩
  have hke : ∀ x : Good wd W, (Good.enc x).length = 2 := fun _ => rfl
  have hfl : ∀ gs : List (Good wd W), gs.flatMap Good.enc = (gs.map (·.1)).flatMap Elt.enc := fun gs => by rw [List.flatMap_map]; rfl
  have hgl : gs.length = n := by rw [← hn, ← hgs, List.length_map]
  obtain ⟨hglt, hH⟩ := holds2 h
  have hHK : HoldsK Good.enc 2 W g 0 gs.toArray := by
   unfold HoldsK
   rw [flatK_list _ hke, List.toList_toArray, hfl, hgs]
   exact hH
  obtain ⟨i0, hi, _, hz1, _⟩ := info_parts infoR
  have aE : ∀ w, (isAgg 139).run Tryz.prog w = .ok true w := fun w => by simp [isAgg, run_underlying Tryz.underlying139]
  have zE : ∀ w, (Go.sizeOf 139).run Tryz.prog w = .ok 2 w := fun w => by simp [Go.sizeOf, typeInfo, hi, hz1]
  have hcon := AnyQ.slices_SortFunc (α := Good wd W) Tryz.sortRow 2 aE zE Good.enc hke (fun x v hv => by
   simp [Good.enc, Elt.enc] at hv
   rcases hv with rfl | rfl <;> rfl) Good.cf (cmpL_swo wd W) 72 #[] g 0 cap gs.toArray W (enters_of Tryz.func72 (by kernel_rfl) rfl) (fun m os dk hdk x y => ?_) hHK hglt (by simp; omega)
  ·rw [List.size_toArray, hgl] at hcon
   refine hcon.mono ?_
   rintro e w' ⟨rfl, d', q, os, hp, hs, rfl⟩
   obtain ⟨hsz, _, hpm⟩ := hp
   replace hsz : d'.size = n := by rw [← hgl]; simpa using hsz
   have hpm' : d'.toList.Perm gs := by
    have e1 : (d'.extract 0 n).toList = d'.toList := by rw [← hsz]; simp
    have e2 : (gs.toArray.extract 0 n).toList = gs := by rw [← hgl]; simp
    rw [e1, e2] at hpm
    exact hpm
   have hflat : flatK Good.enc 2 d' = ((d'.toList.map (·.1)).flatMap Elt.enc).toArray := by rw [flatK_list _ hke, hfl]
   have hown : (putRow id (Sort.ahead W q) g 0 ((d'.toList.map (·.1)).flatMap Elt.enc).toArray).ownsRow N 139 2 (.slice (some ⟨g, 0, none⟩) n cap) n ((d'.toList.map (·.1)).flatMap Elt.enc) := by
    refine put2 h ?_
    have := (hpm'.map (·.1)).flatMap_right Elt.enc
    rw [hgs] at this
    exact this.length_eq
   refine ⟨rfl, d'.toList.map (·.1), by rw [← hgs]; exact hpm'.map _, ?_, ?_, ?_⟩
   ·rw [List.pairwise_map]
    rw [List.pairwise_iff_getElem]
    intro i j hi hj hij hlt
    have hj' : j < n := by simpa [hsz] using hj
    have := hs i j (Nat.zero_le _) hij hj'
    have hjd : j < d'.size := by omega
    have hid : i < d'.size := by omega
    rw [getElem!_pos d' j hjd, getElem!_pos d' i hid] at this
    have h2 : ¬ cmpL (plainO wd) (d'[j]'hjd).1.t (d'[i]'hid).1.t < 0 := of_decide_eq_false this
    simp only [List.getElem_map, Array.getElem_toList] at hlt
    exact h2 hlt
   ·unfold sortWorldK putRowK
    rw [hflat]
    refine own_move hown fun k hk => heap_grow_old _ _ ?_
    have : g = k := by simpa [Value.ownBlock] using hk
    rw [put2_size]; omega
   ·unfold sortWorldK putRowK
    refine ⟨rfl, rfl, rfl, by rw [Go.Sort.size_grow, put2_size]; omega, fun k hk hn => ?_⟩
    rw [heap_grow_old _ _ (by rw [put2_size]; exact hk)]
    exact put2_other _ _ _ _ _ fun e => hn (by rw [e])
  ·unfold sortWorldK putRowK
   have hkeep : ∀ e : Elt, e.At W 0 → e.At (grow (putRow id (Sort.ahead W m) g 0 (flatK Good.enc 2 dk)) os) 0 := fun e he => own_move he fun k hk => by
    obtain ⟨cells, hc⟩ := own_typed he k hk
    rw [heap_grow_old _ _ (by rw [put2_size]; exact (Array.getElem?_eq_some_iff.1 hc).1)]
    refine put2_other _ _ _ _ _ fun e => ?_
    subst e
    obtain ⟨cells2, hc2⟩ := own_typed h k rfl
    rw [hc] at hc2
    injection hc2 with hc2
    injection hc2 with _ h3 _
    exact absurd h3 (by decide)
   obtain ⟨⟨A1, c1, t1, n1⟩, hl1, ha1⟩ := x
   obtain ⟨⟨A2, c2, t2, n2⟩, hl2, ha2⟩ := y
   have s1 : Sl _ A1 c1 t1 := own_sl (hkeep _ ha1)
   have s2 : Sl _ A2 c2 t2 := own_sl (hkeep _ ha2)
   have := cmp1_calls _ wd h8 A1 c1 t1 (nf n1.1) (nf n1.2) A2 c2 t2 (nf n2.1) (nf n2.2) s1 s2 hl1 hl2
   simp only [Good.enc, Elt.enc, Elt.v, noteV, Good.cf]
   rw [show t1.length = wd from hl1, show t2.length = wd from hl2]
   exact this
theorem sort_rows (W : World) (wd base N n c : Nat) (A : Option Addr) (h8 : wd ≤ 1000) (es : List Elt) (h : W.ownsRow N 139 2 (.slice A n c) n (es.flatMap Elt.enc)) (hes : ∀ e ∈ es, e.At W base) (hlen : ∀ e ∈ es, e.t.length = wd) (hn : es.length = n) (hn2 : n ≤ 1024) :
  Calls Tryz.prog 71 #[.slice A n c, .func (.func 72) #[] #[]] W fun e w' => e = .returned (.tuple #[]) ∧ ∃ fs : List Elt, fs.Perm es ∧ (fs.Pairwise fun a b => ¬ Lt (plainO wd) b.t a.t) ∧ w'.ownsRow N 139 2 (.slice A n c) n (fs.flatMap Elt.enc) ∧ W.grownBy w' (Value.slice A n c).ownBlock := by
 rcases h.2 with ⟨e, h0⟩ | ⟨g, cap, cur, e, _⟩
 ·injection e with e1 e2 e3
  subst e1 e2 e3
  have : es = [] := List.length_eq_zero_iff.1 hn
  subst this
  refine (AnyF.slices_SortFunc_none { Tryz.sortRow with } none 0 _ W).mono ?_
  rintro e w' ⟨rfl, rfl⟩
  exact ⟨rfl, [], .refl _, List.Pairwise.nil, h, ⟨rfl, rfl, rfl, Nat.le_refl _, fun _ _ _ => rfl⟩⟩
 ·injection e with e1 e2 e3
  subst e1 e3
  exact sort_some W wd base N g n c h8 es h hes hlen hn hn2
theorem tup_eq {wd : Nat} {a b : Tp} (ha : a.length = wd) (hb : b.length = wd) (h : cmpL (plainO wd) a b = 0) : a = b := by
 rw [cmpL_zero] at h
 refine List.ext_getElem (by omega) fun i h1 h2 => ?_
 have := h (i : Int) (List.mem_map.2 ⟨i, List.mem_range.2 (by omega), rfl⟩)
 simpa [Go.Proofs.YtcmllllbmgcnlaaGreatW.PrintWords.rd, h1, h2] using this
theorem rows_unique {o : Tp} : ∀ {L M : List Row}, Up o (keys L) → Up o (keys M) → (∀ x, x ∈ L ↔ x ∈ M) → L = M
 | [], [], _, _, _ => rfl
 | [], b :: M, _, _, h => absurd ((h b).2 (by simp)) (by simp)
 | a :: L, [], _, _, h => absurd ((h a).1 (by simp)) (by simp)
 | a :: L, b :: M, hL, hM, h => by
  unfold Up at hL hM
  simp only [keys, List.map_cons, List.pairwise_cons] at hL hM
  have hab : a = b := by
   rcases List.mem_cons.1 ((h a).1 (by simp)) with e | ha
   ·exact e
   ·rcases List.mem_cons.1 ((h b).2 (by simp)) with e | hb
    ·exact e.symm
    ·exact absurd (hM.1 a.1 (List.mem_map.2 ⟨a, ha, rfl⟩)) (fun hh => (hL.1 b.1 (List.mem_map.2 ⟨b, hb, rfl⟩)).asymm hh)
  subst hab
  congr 1
  refine rows_unique hL.2 hM.2 fun x => ?_
  constructor
  ·intro hx
   rcases List.mem_cons.1 ((h x).1 (List.mem_cons_of_mem _ hx)) with e | hx'
   ·subst e; exact absurd (hL.1 x.1 (List.mem_map.2 ⟨x, hx, rfl⟩)) (fun hh => hh.irrefl)
   ·exact hx'
  ·intro hx
   rcases List.mem_cons.1 ((h x).2 (List.mem_cons_of_mem _ hx)) with e | hx'
   ·subst e; exact absurd (hM.1 x.1 (List.mem_map.2 ⟨x, hx, rfl⟩)) (fun hh => hh.irrefl)
   ·exact hx'
def Elt.row (e : Elt) : Row := (e.t, e.n)
def notedL (R : List Row) (xs : List Tp) : List Row := R.filter fun x => decide (x.1 ∈ xs)
theorem noted_list {wd : Nat} {R : List Row} (hR : RowsOk wd R) {xs : List Tp} {es fs : List Elt} (hxn : xs.Nodup) (hes : es.map Elt.t = xs) (hl : ∀ e ∈ es, lookF R e.t = some e.n) (hp : fs.Perm es) (hs : fs.Pairwise fun a b => ¬ Lt (plainO wd) b.t a.t) : fs.map Elt.row = notedL R xs := by
 have hlf : ∀ e ∈ fs, lookF R e.t = some e.n := fun e he => hl e (hp.subset he)
 have hlen : ∀ e ∈ fs, e.t.length = wd := fun e he => hR.key (mem_keys (lookF_mem (hlf e he)))
 have hnd : (fs.map Elt.t).Nodup := by
  rw [(hp.map Elt.t).nodup_iff, hes]; exact hxn
 refine rows_unique (o := plainO wd) ?_ ?_ fun x => ?_
 ·have : keys (fs.map Elt.row) = fs.map Elt.t := by simp [keys, Elt.row]
  rw [this]
  unfold Up
  rw [List.pairwise_map]
  rw [List.Nodup, List.pairwise_map] at hnd
  have hboth := hs.and hnd
  refine List.Pairwise.imp_of_mem ?_ hboth
  intro a b ha hb hab
  have h1 : ¬ cmpL (plainO wd) b.t a.t < 0 := hab.1
  have h2 := cmpL_flip (plainO wd) a.t b.t
  have h3 : cmpL (plainO wd) a.t b.t ≠ 0 := fun h => hab.2 (tup_eq (hlen a ha) (hlen b hb) h)
  show cmpL (plainO wd) a.t b.t < 0
  omega
 ·unfold notedL keys Up
  exact (List.Pairwise.sublist ((List.filter_sublist).map Prod.fst) hR.up)
 ·unfold notedL
  rw [List.mem_map, List.mem_filter]
  constructor
  ·rintro ⟨e, he, rfl⟩
   refine ⟨lookF_mem (hlf e he), decide_eq_true ?_⟩
   rw [← hes]
   exact List.mem_map.2 ⟨e, hp.subset he, rfl⟩
  ·rintro ⟨hx, hm⟩
   have hm' : x.1 ∈ xs := of_decide_eq_true hm
   rw [← hes] at hm'
   obtain ⟨e, he, ht⟩ := List.mem_map.1 hm'
   refine ⟨e, hp.symm.subset he, ?_⟩
   have h1 := hl e he
   rw [ht, lookF_at hR.nodup hx] at h1
   injection h1 with h1
   exact Prod.ext ht h1.symm
end Go.Proofs.YtcmllllbmgcnlaaGreat.Rl
end
