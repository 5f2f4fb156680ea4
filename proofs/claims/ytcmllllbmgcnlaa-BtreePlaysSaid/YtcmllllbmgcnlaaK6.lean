/- A loop over an iterator of tuples: the rounds, and the statement. (*Set).All, and what it gives. list: the tuples that an iterator gives. The tests that Range and From hand to walk. (*Set).Range and (*Set).From, and what they give. (*Set).From, and what it gives; Range and From as calls; list over them. Range and From as calls; list over what they give; New, Order, Clear. btree.New; (*Set).Order, Clear. R.Same: the same tuples. alive. Many tuples, one after another: plain. Two sets in memory. How the laws' arguments are opened: a slice of numbers, a slice of such slices, an array of two such. -/
import Derived.Test.YtcmllllbmgcnlaaK2
import Derived.Test.YtcmllllbmgcnlaaK3
import Derived.Maps.AppendAt
import Derived.Test.YtcmllllbmgcnlaaK5
import Derived.Test.YtcmllllbmgcnlaaK4
import Derived.Test.YtcmllllbmgcnlaaK1
import Derived.ProofKit
import Derived.OpenShut
import Derived.ChangeOld
import Derived.Lib.SmallJoins
import Derived.Laws.IdiomArrays
import Derived.Deep.Slices
import Derived.SizedLaws
import Derived.Test.YtcmllllbmgcnlaaWSized
namespace Go.Proofs.Ytcmllllbmgcnlaa.Tup
open Go.RowKit Go.Lib Go.Shelf Go.Proofs.Ytcmllllbmgcnlaa.F Go.Proofs.YtcmllllbmgcnlaaW.PrintWords Go.Proofs.YtcmllllbmgcnlaaW.PrintLast Go.Proofs.YtcmllllbmgcnlaaW.PrintMore
set_option linter.unusedVariables false
set_option linter.unusedSimpArgs false

/-- The loop's record. -/
def recOf (fn : FuncId) (tm : Array Value) (ps : Array Tmp) (assign body : Code) (d : Nat) (st : LoopState) (pe : Option Code) : Loop := { state := st, pending := pe, fn, tmps := tm, params := ps, assign, body, defers := d }
/-- The blocks for deferred calls, empty. -/
def Marks (Dl : List Nat) (W : World) : Prop := ∀ D ∈ Dl, W.heap[D]? = some (.deferred (some []))

theorem rounds_of {F : Fence} {n : Nat} (hd : F.depth = none) {P : Program} {B l : Nat} (hBl : B ≤ l) {fn : FuncId} {tm : Array Value} {ps : Array Tmp} {assign body : Code} {d : Nat} (hfn : F.fn fn) {fp : Nat → Prop} {xs : List Tp} (hps : ps.size = 1) (I : List Tp → World → Prop) (Ix : Code → List Tp → World → Prop) (hI : OwnFrom B I) (hIx : ∀ c, OwnFrom B (Ix c)) (Dl : List Nat) (hD : ∀ D ∈ Dl, B ≤ D ∧ D ≠ l) (hfp : ∀ k, fp k → k ≠ l) (a₁ : Tp → Option Addr → Nat → Act)
    (hassign : ∀ x A c W (K : Act → World → Prop), K (a₁ x A c) W → assign.wpIn (F.inRound l) n P (Exit.then K (fun _ _ _ => False)) { tmps := (ps.zip #[Value.slice A x.length c]).foldl (fun t (p, v) => t.setIfInBounds p v) tm, defers := [] } W)
    (hbody : ∀ pre x A c W0 W1, (∃ r, W1.heap[l]? = some (.loop r)) → I pre W0 → pre ++ [x] <+: xs → Handed1 W0 W1 A c x → I pre W1 → body.wpIn (F.inRound l) n P (ownPostG B (KpF fp) I Ix (pre ++ [x]) W1) (a₁ x A c) W1) :
    Rounds F P l (fun pre W => I pre W ∧ W.heap[l]? = some (.loop (recOf fn tm ps assign body d .ready none)) ∧ Marks Dl W) (fun pre W => ∃ c, Ix c pre W ∧ W.heap[l]? = some (.loop (recOf fn tm ps assign body d .done (some c))) ∧ Marks Dl W) fp xs := by
  rintro m pre x A c W0 W1 ⟨hi, hl, hk⟩ hpre ⟨hb, ho⟩
  have hlt0 := (Array.getElem?_eq_some_iff.1 hl).1
  have hl1 : W1.heap[l]? = some (.loop (recOf fn tm ps assign body d .ready none)) := (hb.block l hlt0).trans hl
  have hlt1 := (Array.getElem?_eq_some_iff.1 hl1).1
  have hk1 : Marks Dl W1 := fun D hD' => (hb.block D (Array.getElem?_eq_some_iff.1 (hk D hD')).1).trans (hk D hD')
  have hi1 : I pre W1 := hI pre W0 W1 none hi ⟨hb.os, hb.tape, hb.output, hb.size, fun k hk _ => hb.block k hk⟩ (fun r e => by cases e)
  refine yieldAny hd m ⟨fn, _, assign, body, run_yield hl1 (by simp [recOf, hps]), roundIn_of_wpIn hfn (hassign x A c W1 _ ⟨_, run_beginRound hl1 rfl, ?_⟩)⟩
  obtain ⟨ob, hob⟩ : ∃ ob, ob = Obj.loop { recOf fn tm ps assign body d .ready none with state := .busy } := ⟨_, rfl⟩
  rw [← hob]
  have hbb : Below (W0.putObj l ob).heap.size (W0.putObj l ob) (W1.putObj l ob) := ⟨hb.os, hb.tape, hb.output, by simpa using hb.size, fun k hk => by
    by_cases e : k = l
    · subst e; rw [World.putObj_heap_same hlt1, World.putObj_heap_same hlt0]
    · rw [World.putObj_heap_other e, World.putObj_heap_other e]; exact hb.block k (by simpa using hk)⟩
  have hoo : (W1.putObj l ob).ownsRow (W0.putObj l ob).heap.size 3 1 (.slice A x.length c) x.length (x.map (Value.int .i64)) := by
    have := own_move ho (w1 := W1.putObj l ob) (fun k hk => World.putObj_heap_other (fun e => by have := own_ge ho k hk.symm; omega))
    simpa using this
  have hl2 : (W1.putObj l ob).heap[l]? = some ob := World.putObj_heap_same hlt1
  have hk2 : Marks Dl (W1.putObj l ob) := fun D hD' => (World.putObj_heap_other (hD D hD').2).trans (hk1 D hD')
  refine wpIn_mono (hbody pre x A c (W0.putObj l ob) (W1.putObj l ob) ⟨_, hl2.trans (by rw [hob])⟩ (hI.putObj _ hi hBl hl rfl) hpre ⟨hbb, hoo⟩ (hI.putObj _ hi1 hBl hl1 rfl)) ?_
  have hnl := hfp
  have fin : ∀ (jump : Option Code) (W3 : World), KeepsFrom B (W1.putObj l ob) W3 → ∃ v W4, (Instr.endRound l jump).run P W3 = .ok v W4 ∧ v = .bool jump.isNone ∧ W4 = W3.putObj l (.loop (recOf fn tm ps assign body d (if jump.isNone then .ready else .done) jump)) ∧ W3.heap[l]? = some ob ∧ W4.heap[l]? = some (.loop (recOf fn tm ps assign body d (if jump.isNone then .ready else .done) jump)) ∧ Marks Dl W4 := by
    intro jump W3 hk3
    have hl3 : W3.heap[l]? = some ob := hk3.same l ob hBl hl2 (by rw [hob]; rfl)
    have hlt3 := (Array.getElem?_eq_some_iff.1 hl3).1
    refine ⟨_, _, run_endRound jump (hl3.trans (by rw [hob])), rfl, rfl, hl3, World.putObj_heap_same hlt3, fun D hD' => (World.putObj_heap_other (hD D hD').2).trans (hk3.same D _ (hD D hD').1 (hk2 D hD') rfl)⟩
  have stop : ∀ (cc : Code) (W3 : World), KeepsFrom B (W1.putObj l ob) W3 → Ix cc (pre ++ [x]) W3 → ∃ v W4, (Instr.endRound l (some cc)).run P W3 = .ok v W4 ∧ ((Ending.returned v = .returned (.bool true) ∧ (I (pre ++ [x]) W4 ∧ W4.heap[l]? = some (.loop (recOf fn tm ps assign body d .ready none)) ∧ Marks Dl W4) ∧ KpF fp W1 W4) ∨ (Ending.returned v = .returned (.bool false) ∧ ∃ c', Ix c' (pre ++ [x]) W4 ∧ W4.heap[l]? = some (.loop (recOf fn tm ps assign body d .done (some c'))) ∧ Marks Dl W4)) := by
    intro cc W3 hk3 hx
    obtain ⟨v, W4, hr, rfl, rfl, hl3, hl4, hm4⟩ := fin (some cc) W3 hk3
    exact ⟨_, _, hr, .inr ⟨rfl, cc, (hIx cc).putObj _ hx hBl hl3 (by rw [hob]; rfl), hl4, hm4⟩⟩
  rintro e a3 W3 hp
  cases e with
  | normal =>
    obtain ⟨hk3, hkp3, hi3⟩ := hp
    obtain ⟨v, W4, hr, rfl, rfl, hl3, hl4, hm4⟩ := fin none W3 hk3
    refine ⟨_, _, hr, .inl ⟨rfl, ⟨hI.putObj _ hi3 hBl hl3 (by rw [hob]; rfl), hl4, hm4⟩, ?_⟩⟩
    have q1 : KpF fp W1 (W1.putObj l ob) := ⟨by simp, fun k hk _ => World.putObj_heap_other (hnl k hk)⟩
    exact (q1.trans hkp3).trans ⟨by simp, fun k hk _ => World.putObj_heap_other (hnl k hk)⟩
  | ret => exact stop .ret W3 hp.1 hp.2
  | exit id => exact stop (.exit id) W3 hp.1 hp.2
  | goto t => exact stop (.goto t) W3 hp.1 hp.2
  | panic ch => exact hp.elim
  | outgrown => exact hp.elim

/-- 'for x := range it { .. }', outermost. -/
theorem range_outer {F : Fence} {n : Nat} {P : Program} {g : Operand} {ps : Array Tmp} {assign body : Code} {Q : Exit → Act → World → Prop} {a : Act} {w : World} (hd : F.depth = none) (hro : F.round = none)
    {gf : Nat} {lb : Array Value} (hg : a.eval g = .func (.func gf) #[] lb) (hFg : F.fn gf) (eg : ∀ args w, (callFunc gf args).run P w = .ok (.enter gf args) w)
    {fp : Nat → Prop} (hfp : ∀ k, fp k → k < w.heap.size) {xs : List Tp} (hseq : SeqR F P gf lb fp xs w) (hps : ps.size = 1)
    (I : Nat → List Tp → World → Prop) (Ix : Nat → Code → List Tp → World → Prop) (hI : ∀ N, w.heap.size + 2 ≤ N → OwnFrom w.heap.size (I N)) (hIx : ∀ N c, w.heap.size + 2 ≤ N → OwnFrom w.heap.size (Ix N c)) (h0 : ∀ W', Below w.heap.size w W' → w.heap.size + 2 ≤ W'.heap.size → I W'.heap.size [] W') (a₁ : Tp → Option Addr → Nat → Act)
    (hassign : ∀ l x A c W (K : Act → World → Prop), K (a₁ x A c) W → assign.wpIn (F.inRound l) n P (Exit.then K (fun _ _ _ => False)) { tmps := (ps.zip #[Value.slice A x.length c]).foldl (fun t (p, v) => t.setIfInBounds p v) a.tmps, defers := [] } W)
    (hbody : ∀ N l pre x A c W0 W1, w.heap.size + 2 ≤ N → w.heap.size ≤ l → (∃ r, W1.heap[l]? = some (.loop r)) → I N pre W0 → pre ++ [x] <+: xs → Handed1 W0 W1 A c x → I N pre W1 → body.wpIn (F.inRound l) n P (ownPostG w.heap.size (KpF (Priv fp (w.heap.size + 2) N)) (I N) (Ix N) (pre ++ [x]) W1) (a₁ x A c) W1)
    (hdone : ∀ (N D : Nat) (W : World), w.heap.size + 2 ≤ N → w.heap.size ≤ D → I N xs W → W.heap[D]? = some (.deferred (some [])) → Q .normal { a with defers := { target := .collected D, args := #[] } :: a.defers } W)
    (hstop : ∀ (N D : Nat) (c : Code) (pre : List Tp) (W : World), w.heap.size + 2 ≤ N → w.heap.size ≤ D → pre <+: xs → Ix N c pre W → W.heap[D]? = some (.deferred (some [])) → c.wpIn F n P Q { a with defers := { target := .collected D, args := #[] } :: a.defers } W) :
    (Code.rangeFunc g ps assign body).wpIn F n P Q a w := by
  refine wpIn_rangeFunc ?_
  intro fn hfn
  rw [hro]
  obtain ⟨W1, hW1⟩ : ∃ W1, (w.alloc (.deferred (some []))).alloc (.loop (recOf fn a.tmps ps assign body w.heap.size .ready none)) = W1 := ⟨_, rfl⟩
  have hL1 : W1.heap[w.heap.size + 1]? = some (.loop (recOf fn a.tmps ps assign body w.heap.size .ready none)) := by
    rw [← hW1]; have := World.alloc_heap_new (w.alloc (.deferred (some []))) (.loop (recOf fn a.tmps ps assign body w.heap.size .ready none)); rwa [World.size_alloc] at this
  have hK1 : W1.heap[w.heap.size]? = some (.deferred (some [])) := by
    rw [← hW1]; exact (Below.heap_alloc _ _ _ (by simp)).trans (World.alloc_heap_new w _)
  have hb1 : Below w.heap.size w W1 := by rw [← hW1]; exact below_alloc (below_alloc (Below.refl _ _) _) _
  have hw1 : W1.heap.size = w.heap.size + 2 := by rw [← hW1]; simp
  refine ⟨w.heap.size + 1, [{ target := .collected w.heap.size, args := #[] }], W1, { target := .fn (.func gf) lb, args := #[.func (.yield (w.heap.size + 1)) #[] #[]] }, W1, gf,
    #[.func (.yield (w.heap.size + 1)) #[] #[]] ++ lb, W1, ?_, ?_, ?_, ?_, (fun h => by rw [hd] at h; cases h), ?_⟩
  · rw [← hW1]; exact run_enterLoop_outer _ _ _ _ _
  · simp only [resolve, hg]
    simp [go_sem]
  · intro f' hf'; simp [Target.leads] at hf'; subst hf'; exact hFg
  · simp [invoke, go_sem, eg]
  · have hR : ∀ N, W1.heap.size ≤ N → _ := fun N hN => rounds_of (n := n) (P := P) (B := w.heap.size) (l := w.heap.size + 1) (d := w.heap.size) (tm := a.tmps) (ps := ps) (assign := assign) (body := body) hd (by omega) hfn (fp := Priv fp (w.heap.size + 2) N) hps (I N) (Ix N) (hI N (by omega)) (fun c => hIx N c (by omega)) [w.heap.size] (fun D hD => by simp at hD; subst hD; omega) (fun k hk e => hk.elim (fun h => absurd (hfp k h) (by omega)) (fun h => by omega)) a₁ (hassign _) (fun pre x A c W0 W1 => hbody N _ pre x A c W0 W1 (by omega) (by omega))
    have keep : ∀ {A B : World} {row : Option Nat} (k : Nat) (o : Obj), A.grownBy B row → (∀ r, row = some r → W1.heap.size ≤ r ∧ ∃ o : Obj, A.heap[r]? = some o ∧ o.isWalk = true) → A.heap[k]? = some o → k < W1.heap.size → B.heap[k]? = some o := fun k o hg hr hk hlt =>
      (hg.block k (Array.getElem?_eq_some_iff.1 hk).1 (fun e => by have := (hr k e.symm).1; omega)).trans hk
    have hnw : ∀ {A : World} {row : Option Nat}, (∀ r, row = some r → W1.heap.size ≤ r ∧ ∃ o : Obj, A.heap[r]? = some o ∧ o.isWalk = true) → (∀ r, row = some r → w.heap.size ≤ r ∧ ∃ o : Obj, A.heap[r]? = some o ∧ o.isCells = false) :=
      fun hr r e => by obtain ⟨hB, o, ho, hw⟩ := hr r e; exact ⟨by omega, o, ho, Obj.not_cells_of_walk hw⟩
    rw [← hw1] at hR
    refine (hseq (w.heap.size + 1) (fun N pre W => I N pre W ∧ W.heap[w.heap.size + 1]? = some (.loop (recOf fn a.tmps ps assign body w.heap.size .ready none)) ∧ Marks [w.heap.size] W) (fun N pre W => ∃ c, Ix N c pre W ∧ W.heap[w.heap.size + 1]? = some (.loop (recOf fn a.tmps ps assign body w.heap.size .done (some c))) ∧ Marks [w.heap.size] W) W1 hb1
      (fun N hN s A B row hs hg' hr => ⟨hI N (by omega) s A B row hs.1 hg' (hnw hr), keep _ _ hg' hr hs.2.1 (by omega), fun D hD => keep _ _ hg' hr (hs.2.2 D hD) (by simp at hD; omega)⟩)
      (fun N hN s A B row hs hg' hr => by
        obtain ⟨c, hc, hl, hk⟩ := hs
        exact ⟨c, hIx N c (by omega) s A B row hc hg' (hnw hr), keep _ _ hg' hr hl (by omega), fun D hD => keep _ _ hg' hr (hk D hD) (by simp at hD; omega)⟩) hR
      (fun W' hW' => ⟨h0 W' (below_then hb1 hb1.size hW') (by have := hW'.size; omega), blk hW' hL1, fun D hD => by simp at hD; subst hD; exact blk hW' hK1⟩) (n - 1)).mono ?_
    rintro e W2 ⟨⟨v, rfl⟩, N, hN, (⟨hi, hl, hk⟩ | ⟨pre, hpre, c, hi, hl, hk⟩)⟩
    · exact ⟨none, _, run_endLoop hl (by simp [recOf]), hdone N _ _ (by omega) (Nat.le_refl _) ((hI N (by omega)).putObj _ hi (by omega) hl rfl) ((World.putObj_heap_other (by omega)).trans (hk _ (by simp)))⟩
    · exact ⟨some c, _, run_endLoop hl (by simp [recOf]), hstop N _ c pre _ (by omega) (Nat.le_refl _) hpre ((hIx N c (by omega)).putObj _ hi (by omega) hl rfl) ((World.putObj_heap_other (by omega)).trans (hk _ (by simp)))⟩

end Go.Proofs.Ytcmllllbmgcnlaa.Tup

namespace Go.Proofs.Ytcmllllbmgcnlaa.Tup
open Go.RowKit Go.Lib Go.Shelf Go.Proofs.Ytcmllllbmgcnlaa.F Go.Proofs.YtcmllllbmgcnlaaW.PrintWords Go.Proofs.YtcmllllbmgcnlaaW.PrintLast Go.Proofs.YtcmllllbmgcnlaaW.PrintMore
set_option linter.unusedVariables false
set_option linter.unusedSimpArgs false
attribute [local go_sem] Oper.semAt_some

theorem abides_none {B : Nat} {J : List Tp → World → Prop} (h : AbidesFrom B J) : ∀ s W W', J s W → Below W.heap.size W W' → J s W' :=
  fun s W W' hs hb => h s W W' none hs ⟨hb.os, hb.tape, hb.output, hb.size, fun k hk _ => hb.block k hk⟩ (fun r e => by cases e)
theorem clone_wide : ∀ n W A c t, Sl W A c t → t.length ≤ 1000000 → CallsIn Fence.wide n Try.prog 47 #[.slice A t.length c] W fun e w' => ∃ A' c', e = .returned (.slice A' t.length c') ∧ Handed1 W w' A' c' t :=
  fun n W A c t h hl => callsIn_wide.2 (cloneIR_calls W A _ c t h hl rfl)

set_option maxHeartbeats 1000000 in
theorem belowA_calls (W : World) (v : Value) : Calls Try.prog 54 #[v] W fun e w' => e = .returned (.bool false) ∧ Below W.heap.size W w' := by
  go_enter Try.func54, Try.ntmps54
  go_wp2
  go_ret
  exact ⟨rfl, Below.refl _ _⟩

set_option maxRecDepth 100000 in
set_option maxHeartbeats 1000000 in
theorem all1_in (F : Fence) (hd : F.depth = none) (hF : ∀ f, F.fn f) (hro : F.round = none) (l : Nat) (fp : Nat → Prop) (J Jx : List Tp → World → Prop) (L : List Tp) (W : World) (Bs bs rt : Nat) (hBs : W.cell? ⟨Bs, 0, none⟩ = some (.pointer (some ⟨bs, 0, none⟩))) (h0 : W.cell? ⟨bs, 0, none⟩ = some (.bool true)) (h2 : W.cell? ⟨bs, 2, none⟩ = some (.pointer (some ⟨rt, 0, none⟩)))
    (hok : ∀ n W, W.cell? ⟨bs, 0, none⟩ = some (.bool true) → CallsIn F n Try.prog 48 #[.pointer (some ⟨bs, 0, none⟩)] W fun e w' => e = .returned (.bool true) ∧ W = w')
    (hw : ∀ n, CallsIn F n Try.prog 53 #[.pointer (some ⟨rt, 0, none⟩), .func (.func 54) #[] #[], .func (.yield l) #[] #[]] W (WalkR fp J Jx W [] L)) (n : Nat) :
    CallsIn F n Try.prog 52 #[.func (.yield l) #[] #[], .pointer (some ⟨Bs, 0, none⟩)] W fun e W' => (∃ v, e = .returned v) ∧ (J L W' ∨ ∃ pre, pre <+: L ∧ Jx pre W') := by
  have hdd : ∀ k : Nat, (F.depth.isSome = true → 1 ≤ k) := fun k h => by rw [hd] at h; cases h
  refine callsIn_of_wp Try.func52 rfl (hF _) ?_ hro
  simp only [Try.ntmps52, List.size_toArray, List.length_cons, List.length_nil, Nat.reduceAdd, Nat.reduceSub, Array.replicate_succ, Array.replicate_zero, List.push_toArray, List.append_toArray, List.nil_append, List.cons_append]
  gi_wp2_with (first
    | ((try refine ⟨hdd _, ?_⟩); gi_at_call 48; refine (hok _ W h0).mono ?_; rintro e w1 ⟨rfl, rfl⟩)
    | ((try refine ⟨hdd _, ?_⟩); gi_at_call 53; refine (hw _).mono ?_; clear hw; rintro e w2 (⟨rfl, hJ2, hk2⟩ | ⟨rfl, q', hq', hx2⟩)))
  · go_end0
    exact ⟨⟨_, rfl⟩, .inl (by simpa using hJ2)⟩
  · go_end0
    exact ⟨⟨_, rfl⟩, .inr ⟨q', hq', by simpa using hx2⟩⟩

/-- What All gives. -/
theorem all_seq {ok fp : Nat → Prop} (w : World) (Bs bs : Nat) {A : Option Addr} {c : Nat} {o : Tp} {rt : Nat} {T : BT} (h : SetAt ok w bs A c o rt T) (hfp : ∀ k, ok k → fp k) (hBs : w.cell? ⟨Bs, 0, none⟩ = some (.pointer (some ⟨bs, 0, none⟩))) :
    SeqR Fence.wide Try.prog 52 #[.pointer (some ⟨Bs, 0, none⟩)] fp T.io w := by
  intro l J Jx W hW hJ hJx hR h0 n
  have hs := h.since ⟨hW⟩
  refine (all1_in Fence.wide rfl (fun _ => trivial) rfl l (Priv fp W.heap.size W.heap.size) (J W.heap.size) (Jx W.heap.size) T.io W Bs bs rt (pw_cell_below hW hBs) hs.c0 hs.c2 (fun n W h => callsIn_wide.2 (ok_calls W bs h)) (fun n => ?_) n).mono (fun e w' h => ⟨h.1, _, Nat.le_refl _, h.2⟩)
  have := walkA_in Fence.wide rfl (fun _ => trivial) rfl l (Priv fp W.heap.size W.heap.size) (J W.heap.size) (Jx W.heap.size) T.io o (fun _ => false) W (fun a => a.length ≤ 1000) (fun _ h => h) clone_wide (fun n W A c t _ _ _ => callsIn_wide.2 (belowA_calls W _)) (abides_none (hJ _ (Nat.le_refl _))) (hR _ (Nat.le_refl _)) _ T (Nat.lt_succ_self _) n rt [] W (hs.nd.mono fun k hk => .inl (hfp k hk)) hs.wf hs.up (fun _ _ _ _ _ h => h) (fun a ha => by have := (hs.fit a ha).1; have := hs.rto.1; omega) hs.le (KpF.refl _ _) (h0 W (Below.refl _ _)) (by rw [sel_false]; exact List.prefix_refl _)
  rwa [sel_false] at this

set_option maxHeartbeats 1000000 in
/-- (*Set).All. -/
theorem all_calls (W : World) (p : Value) (hp : ∃ a, p = .pointer a) : Calls Try.prog 22 #[p] W fun e w' => e = .returned (.func (.func 52) #[] #[.pointer (some ⟨W.heap.size, 0, none⟩)]) ∧ w' = W.alloc (.cells #[p] 24) := by
  obtain ⟨a, rfl⟩ := hp
  go_enter Try.func22, Try.ntmps22
  go_wp2
  go_ret
  exact ⟨rfl, rfl⟩

end Go.Proofs.Ytcmllllbmgcnlaa.Tup

namespace Go.Proofs.Ytcmllllbmgcnlaa.Tup
open Go.RowKit Go.Lib Go.Shelf Go.Proofs.Ytcmllllbmgcnlaa.F Go.Proofs.YtcmllllbmgcnlaaW.PrintWords Go.Proofs.YtcmllllbmgcnlaaW.PrintLast Go.Proofs.YtcmllllbmgcnlaaW.PrintMore
set_option linter.unusedVariables false
set_option linter.unusedSimpArgs false
attribute [local go_sem] Oper.semAt_some

/-- A block of cells. -/
def IsCells (W : World) (k : Nat) : Prop := ∃ o : Obj, W.heap[k]? = some o ∧ o.isCells = true
/-- A row of whole numbers. -/
def IsInts (W : World) (k : Nat) : Prop := ∃ cs fr, W.heap[k]? = some (.cells cs 3 fr)
theorem IsInts.cells {W : World} {k : Nat} (h : IsInts W k) : IsCells W k := by obtain ⟨cs, fr, h⟩ := h; exact ⟨_, h, rfl⟩
/-- The tuples that have come, in a row of the loop's own, in the box B. -/
def ListI (w : World) (B N : Nat) (pre : List Tp) (W : World) : Prop :=
  ∃ A c us ok, Boxed W B 23 (.slice A pre.length c) ∧ N ≤ W.heap.size ∧ W.ownsRow N 22 1 (.slice A pre.length c) pre.length us ∧ Els (El KT W ok) pre us ∧ (∀ k, ok k → w.heap.size ≤ k ∧ k ≠ B ∧ some k ≠ (Value.slice A pre.length c).ownBlock ∧ IsInts W k) ∧ Below w.heap.size w W

theorem isCells_kept {W W' : World} {row : Option Nat} {k : Nat} (h : IsCells W k) (hg : W.grownBy W' row) (hr : ∀ r, row = some r → ∃ o : Obj, W.heap[r]? = some o ∧ o.isCells = false) : W'.heap[k]? = W.heap[k]? ∧ IsCells W' k := by
  obtain ⟨o, ho, hc⟩ := h
  have e : W'.heap[k]? = W.heap[k]? := hg.block k (Array.getElem?_eq_some_iff.1 ho).1 (fun e => by
    obtain ⟨o', ho', hc'⟩ := hr k e.symm
    rw [ho] at ho'; injection ho' with ho'; rw [ho', hc'] at hc; cases hc)
  exact ⟨e, o, e.trans ho, hc⟩
theorem listI_own (w : World) (B N M : Nat) (hB : w.heap.size ≤ M) : OwnFrom M (ListI w B N) := by
  rintro pre X Y row ⟨A, c, us, ok, hb, hNX, ho, hE, hok, hB0⟩ hg hr
  have hr' : ∀ r, row = some r → ∃ o : Obj, X.heap[r]? = some o ∧ o.isCells = false := fun r e => (hr r e).2
  have hbc : IsCells X B := ⟨_, hb, rfl⟩
  refine ⟨A, c, us, ok, (isCells_kept hbc hg hr').1.trans hb, Nat.le_trans hNX hg.size, own_move ho fun k hk => ?_, els_step hE fun k hk _ => (isCells_kept (hok k hk).2.2.2.cells hg hr').1, fun k hk => ⟨(hok k hk).1, (hok k hk).2.1, (hok k hk).2.2.1, by obtain ⟨cs, fr, h⟩ := (hok k hk).2.2.2; exact ⟨cs, fr, (isCells_kept ⟨_, h, rfl⟩ hg hr').1.trans h⟩⟩, hB0.grown hg hB0.size (fun k e => by have := (hr k e).1; omega)⟩
  have : IsCells X k := by
    rcases ho.2 with ⟨e, _⟩ | ⟨g, cap, cur, e, _, hgb, _⟩
    · rw [e] at hk; simp [Value.ownBlock] at hk
    · rw [e] at hk
      obtain rfl : g = k := by simpa [Value.ownBlock] using hk
      exact ⟨_, hgb, rfl⟩
  exact (isCells_kept this hg hr').1

theorem infoL : (Try.prog.info? 22).map (fun i => (i.zero, i.size, i.bytes)) = some (some (.slice none 0 0), 1, 24) := by kernel_rfl

/-- Behind an append and the store into the box. -/
theorem listI_more {w W w1 : World} {B N : Nat} {pre : List Tp} {x : Tp} {A A2 : Option Addr} {c c2 g' cap' : Nat} {us : List Value} {ok : Nat → Prop} {W0 : World} (hwB : w.heap.size ≤ B) (hBN : B < N) (hwN : w.heap.size ≤ N) (hNW : N ≤ W.heap.size) (hb : Boxed W B 23 (.slice A pre.length c)) (ho : W.ownsRow N 22 1 (.slice A pre.length c) pre.length us) (hE : Els (El KT W ok) pre us) (hok : ∀ k, ok k → w.heap.size ≤ k ∧ k ≠ B ∧ some k ≠ (Value.slice A pre.length c).ownBlock ∧ IsInts W k) (hB0 : Below w.heap.size w W)
    (hW0b : B < W0.heap.size) (hW0r : ∀ k, some k = (Value.slice A pre.length c).ownBlock → k < W0.heap.size) (hW0w : w.heap.size ≤ W0.heap.size) (hh : W.ownsRow W0.heap.size 3 1 (.slice A2 x.length c2) x.length (x.map (Value.int .i64)))
    (hown' : w1.ownsRow N 22 1 (.slice (some ⟨g', 0, none⟩) (pre.length + 1) cap') (pre.length + 1) (us ++ [.slice A2 x.length c2])) (hgrow : (W.alloc (.cells #[.slice A2 x.length c2] 22)).grownBy w1 (Value.slice A pre.length c).ownBlock) :
    ListI w B N (pre ++ [x]) (w1.setCell ⟨B, 0, none⟩ (.slice (some ⟨g', 0, none⟩) (pre.length + 1) cap')) ∧ KeepsOthers W (w1.setCell ⟨B, 0, none⟩ (.slice (some ⟨g', 0, none⟩) (pre.length + 1) cap')) ∧ (∀ k, k < N → k ≠ B → (w1.setCell ⟨B, 0, none⟩ (.slice (some ⟨g', 0, none⟩) (pre.length + 1) cap')).heap[k]? = W.heap[k]?) ∧ W.heap.size ≤ (w1.setCell ⟨B, 0, none⟩ (.slice (some ⟨g', 0, none⟩) (pre.length + 1) cap')).heap.size := by
  have hv1 : Boxed w1 B 23 (.slice A pre.length c) := (hb.alloc _).kept hgrow (hb.not_row (by decide) ho)
  have hv2 := hv1.set (.slice (some ⟨g', 0, none⟩) (pre.length + 1) cap')
  have hr2 := hown'.kept (grownBy_setCell' w1 B (.slice (some ⟨g', 0, none⟩) (pre.length + 1) cap')) (.inr (hv1.not_row (by decide) hown').symm)
  have hk2 : KeepsOthers W (w1.setCell ⟨B, 0, none⟩ (.slice (some ⟨g', 0, none⟩) (pre.length + 1) cap')) := by
    refine ((KeepsOthers.alloc W (.cells #[.slice A2 x.length c2] 22)).trans (KeepsOthers.of_grownBy hgrow fun j o ej hj => ?_)).trans (KeepsOthers.setCell _ _ _)
    rcases (ho.alloc (.cells #[.slice A2 x.length c2] 22)).2 with ⟨e, _⟩ | ⟨g, cap, cur, e, _, hgb, _⟩
    · rw [e] at ej; simp [Value.ownBlock] at ej
    · rw [e] at ej
      obtain rfl : g = j := by simpa [Value.ownBlock] using ej
      rw [hgb] at hj; cases hj; rfl
  have hb2 : Below w.heap.size W (w1.setCell ⟨B, 0, none⟩ (.slice (some ⟨g', 0, none⟩) (pre.length + 1) cap')) := by
    refine (((Below.refl _ W).alloc hB0.size (.cells #[.slice A2 x.length c2] 22)).grown hgrow (by simp; have := hB0.size; omega) fun j ej => ?_).setCell (p := ⟨B, 0, none⟩) hwB _
    exact Nat.le_trans hwN (own_ge ho j ej.symm)
  obtain ⟨V, hV⟩ : ∃ V, V = w1.setCell ⟨B, 0, none⟩ (.slice (some ⟨g', 0, none⟩) (pre.length + 1) cap') := ⟨_, rfl⟩
  have hasz : W.heap.size ≤ (W.alloc (.cells #[.slice A2 x.length c2] 22)).heap.size := by simp
  have hblk : ∀ k, k ≠ B → some k ≠ (Value.slice A pre.length c).ownBlock → k < W.heap.size → V.heap[k]? = W.heap[k]? := fun k h1 h2 h3 => by
    rw [hV, Below.heap_setCell _ _ _ _ h1, hgrow.block k (by omega) h2, Below.heap_alloc _ _ _ h3]
  rw [← hV] at hv2 hr2 hk2 hb2 ⊢
  have hxlt := own_lt hh
  have hxge := own_ge hh
  have hEx : El KT W (fun k => some k = (Value.slice A2 x.length c2).ownBlock) x (.slice A2 x.length c2) := by
    obtain ⟨A', c', e, hle, hF⟩ := rows_in (d := Kd.int .i64) (ok := fun _ => False) rfl hh (Els.of (by simp) fun i hi hu => by rw [List.getElem_map]; exact fun W' _ => rfl) rfl
    injection e with e1 e2 e3
    subst e1 e3
    exact tup_el hle (Kd.F_mono hF fun k hk => hk.elim False.elim id)
  have hxc : ∀ k, some k = (Value.slice A2 x.length c2).ownBlock → IsInts W k := fun k hk => by
    rcases hh.2 with ⟨e, _⟩ | ⟨g, cap, cur, e, _, hgb, _⟩
    · rw [e] at hk; simp [Value.ownBlock] at hk
    · rw [e] at hk
      obtain rfl : k = g := by simpa [Value.ownBlock] using hk
      exact ⟨_, _, hgb⟩
  have hx1 : ∀ k, some k = (Value.slice A2 x.length c2).ownBlock → k ≠ B ∧ some k ≠ (Value.slice A pre.length c).ownBlock ∧ w.heap.size ≤ k := fun k hk => ⟨fun e => by have := hxge k hk; omega, fun e => by have := hxge k hk; have := hW0r k e; omega, by have := hxge k hk; omega⟩
  have hcell : ∀ k, IsInts W k → V.heap[k]? = W.heap[k]? → IsInts V k := fun k ⟨o, fr, h1⟩ e => ⟨o, fr, e.trans h1⟩
  have hlt : ∀ k, IsInts W k → k < W.heap.size := fun k ⟨o, fr, h1⟩ => (Array.getElem?_eq_some_iff.1 h1).1
  have hok2 : ∀ k, ok k ∨ some k = (Value.slice A2 x.length c2).ownBlock → w.heap.size ≤ k ∧ k ≠ B ∧ some k ≠ (Value.slice A pre.length c).ownBlock ∧ IsInts W k := fun k hk => by
    rcases hk with hk | hk
    · exact hok k hk
    · exact ⟨(hx1 k hk).2.2, (hx1 k hk).1, (hx1 k hk).2.1, hxc k hk⟩
  refine ⟨⟨some ⟨g', 0, none⟩, cap', us ++ [.slice A2 x.length c2], fun k => ok k ∨ some k = (Value.slice A2 x.length c2).ownBlock, by simpa using hv2, Nat.le_trans hNW hb2.size, by simpa using hr2, ?_, fun k hk => ?_, hB0.trans hb2⟩, hk2, fun k hk hkB => hblk k hkB (fun e => by have := own_ge ho k e; omega) (by omega), hb2.size⟩
  · refine (Els.append (els_mono hE fun k hk => .inl hk) (.cons (hEx.mono fun k hk => .inr hk) .nil)).imp fun p u h => h.step fun k hk hlt' => ?_
    have := hok2 k hk
    exact hblk k this.2.1 this.2.2.1 hlt'
  · have h := hok2 k hk
    refine ⟨h.1, h.2.1, ?_, hcell k h.2.2.2 (hblk k h.2.1 h.2.2.1 (hlt k h.2.2.2))⟩
    intro e
    have e' : some k = (Value.slice (some ⟨g', 0, none⟩) (pre.length + 1) cap').ownBlock := by simpa [Value.ownBlock] using e
    obtain ⟨cs, fr, hint⟩ := h.2.2.2
    have hv := hblk k h.2.1 h.2.2.1 (hlt k h.2.2.2)
    rcases hr2.2 with ⟨e2, _⟩ | ⟨g, cap, cur, e2, _, hgb, _⟩
    · cases e2
    · rw [e2] at e'
      obtain rfl : k = g := by simpa [Value.ownBlock] using e'
      rw [hv, hint] at hgb
      injection hgb with hgb
      injection hgb with _ h3 _
      exact absurd h3 (by decide)

set_option maxRecDepth 100000 in
set_option maxHeartbeats 2000000 in
theorem list_in (F : Fence) (hd : F.depth = none) (hF : ∀ f, F.fn f) (hro : F.round = none) (n : Nat) (w : World) (gf : Nat) (lb : Array Value) (eg : ∀ args w, (callFunc gf args).run Try.prog w = .ok (.enter gf args) w) (fp : Nat → Prop) (hfp : ∀ k, fp k → k < w.heap.size) (xs : List Tp) (hx : xs.length ≤ 2048)
    (hseq : SeqR F Try.prog gf lb fp xs (w.alloc (.cells #[.slice none 0 0] 23))) :
    CallsIn F n Try.prog 21 #[.func (.func gf) #[] lb] w fun e w' => ∃ A c, e = .returned (.slice A xs.length c) ∧ xs.length ≤ c ∧ Kd.F KT w' (fun k => w.heap.size ≤ k) A xs.length xs ∧ Below w.heap.size w w' := by
  have hdd : ∀ k : Nat, (F.depth.isSome = true → 1 ≤ k) := fun k h => by rw [hd] at h; cases h
  obtain ⟨i0, hi, hz0, hz1, hz2⟩ := info_parts infoL
  refine callsIn_of_wp_marks Try.func21 rfl (hF _) ?_ hro
  simp only [Try.ntmps21, List.size_toArray, List.length_cons, List.length_nil, Nat.reduceAdd, Nat.reduceSub, Array.replicate_succ, Array.replicate_zero, List.push_toArray, List.append_toArray, List.nil_append, List.cons_append]
  gi_wp2
  have bO := Boxed.new w 23 (.slice none 0 0)
  have hB0 : Below w.heap.size w (w.alloc (.cells #[.slice none 0 0] 23)) := below_alloc (Below.refl _ _) _
  have hsz1 : (w.alloc (.cells #[.slice none 0 0] 23)).heap.size = w.heap.size + 1 := by simp
  refine range_outer hd hro (gf := gf) (lb := lb) rfl (hF _) eg (fp := fp) (fun k hk => by have := hfp k hk; omega) hseq rfl (ListI w w.heap.size) (fun _ _ _ _ => False) (fun N _ => listI_own w _ N _ (by omega)) (fun _ _ _ _ _ _ _ hs _ _ => hs)
    (fun W' hW' _ => ⟨none, 0, [], fun _ => False, (hW'.block _ (by omega)).trans bO, Nat.le_refl _, World.ownsRow_nil _ _ _ _, .nil, fun k hk => hk.elim, hB0.trans (hW'.mono (by omega))⟩) (fun x A c => { tmps := #[.func (.func gf) #[] lb, undef, .slice none 0 0, .pointer (some ⟨w.heap.size, 0, none⟩), .slice A x.length c, .func (.func gf) #[] lb, .slice A x.length c, undef, undef, undef, undef, undef, undef, undef, undef], defers := [] }) ?assign ?body ?done ?stop
  case assign =>
    intro l x A c W K hK
    gi_wp2
    exact hK
  case body =>
    rintro N l pre x A2 c2 W0 W1 hNw hl hrec ⟨A0, c0, us0, ok0, hb0, hN0, ho0, hE0, hok0, hB00⟩ hpre ⟨hh1, hh2⟩ ⟨A, c, us, ok, hb, hNW, ho, hE, hok, hB⟩
    have HNW : Aside0 (N ≤ W1.heap.size ∧ w.heap.size < N ∧ (w.alloc (.cells #[.slice none 0 0] 23)).heap.size + 2 ≤ N) := ⟨hNW, by omega, hNw⟩
    clear hN0 hNW hNw
    have hpl : pre.length + 1 ≤ 2048 := by have := hpre.length_le; simp at this; omega
    have hblt : w.heap.size < W0.heap.size := (Array.getElem?_eq_some_iff.1 hb0).1
    have hsame : A = A0 ∧ c = c0 := by
      have e : W1.heap[w.heap.size]? = W0.heap[w.heap.size]? := hh1.block _ hblt
      have e1 : W1.heap[w.heap.size]? = _ := hb
      have e0 : W0.heap[w.heap.size]? = _ := hb0
      rw [e, e0] at e1
      simp at e1
      exact ⟨e1.1.symm, e1.2.symm⟩
    obtain ⟨rfl, rfl⟩ := hsame
    have hown0 := own_lt ho0
    obtain ⟨pl, hplv⟩ : ∃ pl, pl = pre.length := ⟨_, rfl⟩
    have hc := hb.cell
    have hng : ¬ ((pl : Int) > 2048) := by omega

    have HBX := Aside0.mk hb
    have HO := Aside0.mk ho
    have HE := Aside0.mk hE
    have HOK := Aside0.mk hok
    have HB := Aside0.mk hB
    have HH2 := Aside0.mk hh2
    have HH1 := Aside0.mk hh1
    have HSZ : Aside0 (w.heap.size ≤ W1.heap.size ∧ w.heap.size ≤ W0.heap.size) := ⟨hB.size, hB00.size⟩
    have HR := Aside0.mk hown0
    clear hb0 ho0 hE0 hok0 hB00 hh1 hh2 hb ho hE hok hB hown0 hrec
    rw [← hplv] at hc
    have ho' : W1.ownsRow N 22 1 (.slice A pl c) pl us := by rw [hplv]; exact HO.out
    have HO' := Aside0.mk ho'
    have HPL := Aside0.mk hplv
    have HPL2 : Aside0 (pl + 1 ≤ 2048) := ⟨by omega⟩
    clear ho' hplv
    gi_wp2_with (gi_at_builtin; refine wpListIn_append_own _ rfl _ _ 23 rfl N 22 i0 (.slice none 0 0) 1 24 Try.underlying23 hi hz0 hz1 hz2 rfl (by decide) _ _ _ rfl (HO'.out.alloc _) ⟨W1.heap.size, 0, none⟩ 1 1 [.slice A2 x.length c2] rfl rfl (cell_one_new _ _ _) (by simp [Value.oneCell']) (by have := HPL2.out; unfold maxLen; omega) (by have := HPL2.out; omega) (by have := HNW.out.1; simp; omega) ?_; intro v' w1 hown' hgrow _; obtain ⟨g', cap', rfl⟩ := ownsRow_succ hown'; have hv1 := (HBX.out.alloc (.cells #[.slice A2 x.length c2] 22)).kept hgrow (by have h := HBX.out.not_row (by decide) HO.out; rw [← HPL.out] at h; exact h); have hc1 := hv1.cell; have hf1 := hv1.frozen; have HW := Aside0.mk hown'; have HG := Aside0.mk hgrow; clear hown' hgrow hv1)
    have hown := HW.out
    have hgrow := HG.out
    rw [HPL.out] at hown hgrow
    obtain ⟨h1, h2, h3, h4⟩ := listI_more (Nat.le_refl _) HNW.out.2.1 (Nat.le_of_lt HNW.out.2.1) HNW.out.1 HBX.out HO.out HE.out HOK.out HB.out hblt HR.out HSZ.out.2 HH2.out hown hgrow
    rw [← HPL.out] at h1 h2 h3 h4
    have hn3 := HNW.out
    exact ⟨h2.from _, ⟨h4, fun k hk _ => hk.elim (fun h => h3 k (by have := hfp k h; omega) (by have := hfp k h; omega)) (fun h => h3 k h.2 (by have := h.1; omega))⟩, h1⟩
  case done =>
    rintro N D W hNw hD ⟨A, c, us, ok, hb, hNW, ho, hE, hok, hB⟩ hK
    have hc := hb.cell
    obtain ⟨A', c', e, hle, hFF⟩ := rows_in rfl ho hE rfl
    injection e with e1 e2 e3
    subst e1
    have hge : ∀ k, some k = (Value.slice A xs.length c).ownBlock → w.heap.size ≤ k := fun k hk => by have := own_ge ho k hk; omega
    have hDc : ∀ k, IsCells W k → k ≠ D := fun k ⟨o, h1, h2⟩ e => by rw [e, hK] at h1; injection h1 with h1; rw [← h1] at h2; cases h2
    have hownc : ∀ k, some k = (Value.slice A xs.length c).ownBlock → IsCells W k := fun k hk => by
      rcases ho.2 with ⟨e', _⟩ | ⟨g, cap, cur, e', _, hgb, _⟩
      · rw [e'] at hk; simp [Value.ownBlock] at hk
      · rw [e'] at hk
        obtain rfl : k = g := by simpa [Value.ownBlock] using hk
        exact ⟨_, hgb, rfl⟩
    have HF := Aside0.mk (show Kd.F KT (W.putObj D (.deferred none)) (fun k => w.heap.size ≤ k) A xs.length xs from
      Kd.F_mono (Kd.F_step hFF (fun k hk _ => World.putObj_heap_other (hDc k (hk.elim (fun hk => (hok k hk).2.2.2.cells) (hownc k))))) (fun k hk => hk.elim (fun hk => (hok k hk).1) (hge k)))
    have HB := Aside0.mk hB
    clear hb ho hE hok hB hFF hge hownc hDc
    gi_wp2
    refine ⟨by simp, .inl ⟨_, _, rfl, run_takeDeferred hK, ?_⟩⟩
    exact ⟨_, results_tmp rfl _ _ _, A, c', rfl, hle, HF.out, HB.out.grown (grownBy_putObj' W D (.deferred none)) HB.out.size (fun k e => by cases e; omega)⟩
  case stop =>
    rintro N D c pre W _ _ _ h _
    exact h.elim

/-- What list answers. -/
def ListR (w : World) (xs : List Tp) (e : Ending) (w' : World) : Prop := ∃ A c, e = .returned (.slice A xs.length c) ∧ xs.length ≤ c ∧ Kd.F KT w' (fun k => w.heap.size ≤ k) A xs.length xs ∧ Below w.heap.size w w'
theorem listA_enters : ∀ args w, (callFunc 52 args).run Try.prog w = .ok (.enter 52 args) w := enters_of Try.func52 (by kernel_rfl) rfl
/-- list over All. -/
theorem listA_calls {ok : Nat → Prop} (W : World) (Bs bs : Nat) {A : Option Addr} {c : Nat} {o : Tp} {rt : Nat} {T : BT} (h : SetAt ok W bs A c o rt T) (hBs : W.cell? ⟨Bs, 0, none⟩ = some (.pointer (some ⟨bs, 0, none⟩))) :
    Calls Try.prog 21 #[.func (.func 52) #[] #[.pointer (some ⟨Bs, 0, none⟩)]] W (ListR W T.io) := by
  refine callsIn_wide (n := 3) |>.1 (list_in Fence.wide rfl (fun _ => trivial) rfl 3 W 52 _ listA_enters (fun k => ok k ∧ k < W.heap.size) (fun k hk => hk.2) T.io (by have := h.le; omega) ?_)
  have hb : Below W.heap.size W (W.alloc (.cells #[.slice none 0 0] 23)) := below_alloc (Below.refl _ _) _
  exact all_seq _ Bs bs (h.bound.since ⟨hb⟩) (fun k hk => hk) (pw_cell_below hb hBs)

end Go.Proofs.Ytcmllllbmgcnlaa.Tup

namespace Go.Proofs.Ytcmllllbmgcnlaa.Tup
open Go.RowKit Go.Lib Go.Shelf Go.Proofs.Ytcmllllbmgcnlaa.F Go.Proofs.YtcmllllbmgcnlaaW.PrintWords Go.Proofs.YtcmllllbmgcnlaaW.PrintLast Go.Proofs.YtcmllllbmgcnlaaW.PrintMore
set_option linter.unusedVariables false
set_option linter.unusedSimpArgs false

/-- Number i of a slice that is read. -/
theorem sl_at {W : World} {A : Option Addr} {c : Nat} {l : List Int} (h : Sl W A c l) (i : Int) (h0 : 0 ≤ i) (h1 : i < (l.length : Int)) :
    ∃ ad, A = some ad ∧ W.cell? (ad.add i.toNat) = some (.int .i64 (rd l i)) := by
  obtain ⟨ad, cs, e, hl, hK, hc⟩ := Kd.C_get h.C (0 : Int) i h0 h1
  have hK' : cs = [Value.int .i64 (l.getD i.toNat 0)] := hK
  refine ⟨ad, e, ?_⟩
  have := hc 0 _ (by rw [hK']; rfl)
  simpa [Kd.int, Kd.scalar, rd] using this

/-- Is a tuple below a head? -/
def pR (o : Tp) (k : Int) (key x : Tp) : Bool := decide (cmpL (o.take k.toNat) x key < 0)
/-- Is a tuple below another? -/
def pF (o key x : Tp) : Bool := decide (cmpS o x key < 0)

set_option maxHeartbeats 1000000 in
set_option maxRecDepth 100000 in
theorem belowF_calls (W : World) (B4 B2 : Nat) (Ao : Option Addr) (co : Nat) (o : Tp) (Ak : Option Addr) (ck : Nat) (key : Tp) (c4 : W.cell? ⟨B4, 0, none⟩ = some (.slice Ao o.length co)) (c2 : W.cell? ⟨B2, 0, none⟩ = some (.slice Ak key.length ck)) (so : Sl W Ao co o) (sk : Sl W Ak ck key) (A : Option Addr) (c : Nat) (x : Tp) (sx : Sl W A c x) :
    Calls Try.prog 64 #[.slice A x.length c, .pointer (some ⟨B4, 0, none⟩), .pointer (some ⟨B2, 0, none⟩)] W fun e w' => e = .returned (.bool (pF o key x)) ∧ Below W.heap.size W w' := by
  go_enter Try.func64, Try.ntmps64
  go_wp2_with (go_at_call 65; refine (cmp_calls Ao co o A c x Ak ck key _ so sx sk).mono ?_; rintro e w' ⟨rfl, hb⟩)
  go_ret
  exact ⟨rfl, hb⟩

set_option maxHeartbeats 2000000 in
set_option maxRecDepth 100000 in
theorem belowR_calls (W : World) (B5 B3 B2 : Nat) (Ao : Option Addr) (co : Nat) (o : Tp) (k : Int) (Ak : Option Addr) (ck : Nat) (key : Tp) (c5 : W.cell? ⟨B5, 0, none⟩ = some (.slice Ao o.length co)) (c3 : W.cell? ⟨B3, 0, none⟩ = some (.int .i64 k)) (c2 : W.cell? ⟨B2, 0, none⟩ = some (.slice Ak key.length ck)) (so : Sl W Ao co o) (sk : Sl W Ak ck key) (rto : Rt o) (hk : key.length = o.length) (A : Option Addr) (c : Nat) (x : Tp) (sx : Sl W A c x) (hx : x.length = o.length) :
    Calls Try.prog 60 #[.slice A x.length c, .pointer (some ⟨B5, 0, none⟩), .pointer (some ⟨B3, 0, none⟩), .pointer (some ⟨B2, 0, none⟩)] W fun e w' => e = .returned (.bool (pR o k key x)) ∧ Below W.heap.size W w' := by
  obtain ⟨n, hn⟩ : ∃ n, n = o.length := ⟨_, rfl⟩
  obtain ⟨K, hK⟩ : ∃ K, K = min k.toNat n := ⟨_, rfl⟩
  have hmm : max (min k (n : Int)) 0 = (K : Int) := by omega
  have hKn : K ≤ n := by omega
  have hKc : K ≤ co := by have := so.le; omega
  have e1 : o.take k.toNat = o.take K := by
    by_cases h : k.toNat ≤ n
    · rw [hK, Nat.min_eq_left h]
    · rw [hK, Nat.min_eq_right (by omega), List.take_of_length_le (by omega), List.take_of_length_le (by omega)]
  have HP : Aside0 (pR o k key x = decide (cmpL (o.take K) x key < 0)) := ⟨by rw [pR, e1]⟩
  have HSO := Aside0.mk so
  have HSK := Aside0.mk sk
  have HSX := Aside0.mk sx
  have HRT := Aside0.mk rto
  have HN := Aside0.mk hn
  have hn8 : n ≤ 8 := by have := rto.1; omega
  have HL : Aside0 (key.length = n ∧ x.length = n) := ⟨by omega, by omega⟩
  rw [hk] at c2
  rw [hx]
  rw [← hn] at c5 c2 ⊢
  clear so sk sx rto hn hk hx e1 hK
  rcases Int.lt_or_le k 0 with hk | hk
  · obtain rfl : K = 0 := by omega
    have HX := Aside0.mk (show decide (cmpL (o.take 0) x key < 0) = false from rfl)
    go_enter Try.func60, Try.ntmps60
    go_wp2
    go_loopg [16] 0 (fun gk v16 w' => v16 = .int .i64 0 ∧ Aside0 (Since W w'))
    case atStart => exact ⟨rfl, ⟨Since.refl W⟩⟩
    case round =>
      obtain ⟨rfl, HS⟩ := hrel
      go_wp2
      go_ret
      exact ⟨by rw [HP.out, HX.out]; rfl, HS.out.b⟩
  · rcases Nat.lt_or_ge n k.toNat with hk2 | hk2
    · have hkn : ¬ k < (n : Int) := by omega
      obtain rfl : n = K := by omega
      go_enter Try.func60, Try.ntmps60
      go_wp2
      go_loopg [16] (n) (fun gk v16 w' => ∃ j : Nat, v16 = .int .i64 (j : Int) ∧ Aside0 (j + gk = n) ∧ Aside0 (cmpL (o.take (n)) x key = cmpL ((o.take (n)).drop j) x key) ∧ Aside0 (Since W w'))
      case atStart => exact ⟨0, rfl, ⟨by omega⟩, ⟨by rw [List.drop_zero]⟩, ⟨Since.refl W⟩⟩
      case round =>
        obtain ⟨j, rfl, HJ, HE, HS⟩ := hrel
        by_cases hj : j < n
        · have hjo : j < o.length := by have := HN.out; omega
          obtain ⟨ad0, rfl, hc0⟩ := sl_at (HS.out.sl HSO.out) (j : Int) (by omega) (by omega)
          have hr0 := HRT.out.2.1 (o[j]) (List.getElem_mem _)
          have hro : rd o (j : Int) = o[j] := by simp [rd, hjo]
          obtain ⟨q, hq⟩ : ∃ q, q = rd o (j : Int) := ⟨_, rfl⟩
          rw [← hq] at hc0 hro
          rw [← hro] at hr0
          have hq0 : 0 ≤ q := hr0.1
          have hqn : q < (n : Int) := by have := HN.out; omega
          obtain ⟨adx, rfl, hcx⟩ := sl_at (HS.out.sl HSX.out) q hq0 (by have := HL.out; omega)
          obtain ⟨adk, rfl, hck⟩ := sl_at (HS.out.sl HSK.out) q hq0 (by have := HL.out; omega)
          have hd : (o.take (n)).drop j = q :: (o.take (n)).drop (j + 1) := by
            rw [List.drop_eq_getElem_cons (by simp; omega), List.getElem_take, ← hro]
          have HEE := Aside0.mk (HE.out.trans (by rw [hd]; rfl : _ = (if rd x q < rd key q then -1 else if rd x q > rd key q then 1 else cmpL ((o.take (n)).drop (j + 1)) x key)))
          have h5 := pw_cell_below HS.out.b c5
          have h2 := pw_cell_below HS.out.b c2
          have hjt : ((j : Int)).toNat = j := by omega
          rw [hjt] at hc0
          have hj1 : (j : Int) < ((n : Nat) : Int) := by omega
          clear hr0 hro hq hd hjo
          obtain ⟨a, ha⟩ : ∃ a, a = rd x q := ⟨_, rfl⟩
          obtain ⟨b, hb⟩ : ∃ b, b = rd key q := ⟨_, rfl⟩
          rw [← ha, ← hb] at HEE
          rw [← ha] at hcx
          rw [← hb] at hck
          clear ha hb
          by_cases hab : a = b
          · subst hab
            have HX := Aside0.mk (HEE.out.trans (by simp : _ = cmpL ((o.take (n)).drop (j + 1)) x key))
            go_wp2
            go_quiet (fail)
            go_wp2
            obtain ⟨g2, hg2⟩ : ∃ g2, g2 = gk - 1 := ⟨_, rfl⟩
            go_roundg g2
            case measure => have := HJ.out; omega
            case rel => exact ⟨j + 1, by go_num, ⟨by have := HJ.out; omega⟩, HX, ⟨HS.out.drewN _⟩⟩
          · have hab2 : (a == b) = false := beq_eq_false_iff_ne.2 hab
            have HX := Aside0.mk (show decide (cmpL (o.take (n)) x key < 0) = decide (a < b) from by
              rw [HEE.out]
              by_cases h : a < b
              · simp [h]
              · rw [if_neg h, if_pos (by omega)]; simp; omega)
            clear HEE
            go_wp2
            go_quiet (fail)
            go_wp2
            go_quiet (fail)
            go_wp2
            go_ret
            exact ⟨by rw [HP.out, HX.out]; rfl, (((HS.out.drewN _).drewN _).b)⟩
        · obtain rfl : j = n := by have := HJ.out; omega
          have HX := Aside0.mk (show decide (cmpL (o.take (j)) x key < 0) = false from by
            rw [HE.out, List.drop_of_length_le (by simp; omega)]; rfl)
          go_wp2
          go_ret
          exact ⟨by rw [HP.out, HX.out]; rfl, HS.out.b⟩
    · obtain rfl : k = (K : Int) := by omega
      have hKN : (K : Int) ≤ (n : Int) := by omega
      go_enter Try.func60, Try.ntmps60
      go_wp2
      go_loopg [16] (K) (fun gk v16 w' => ∃ j : Nat, v16 = .int .i64 (j : Int) ∧ Aside0 (j + gk = K) ∧ Aside0 (cmpL (o.take (K)) x key = cmpL ((o.take (K)).drop j) x key) ∧ Aside0 (Since W w'))
      case atStart => exact ⟨0, rfl, ⟨by omega⟩, ⟨by rw [List.drop_zero]⟩, ⟨Since.refl W⟩⟩
      case round =>
        obtain ⟨j, rfl, HJ, HE, HS⟩ := hrel
        by_cases hj : j < K
        · have hjo : j < o.length := by have := HN.out; omega
          obtain ⟨ad0, rfl, hc0⟩ := sl_at (HS.out.sl HSO.out) (j : Int) (by omega) (by omega)
          have hr0 := HRT.out.2.1 (o[j]) (List.getElem_mem _)
          have hro : rd o (j : Int) = o[j] := by simp [rd, hjo]
          obtain ⟨q, hq⟩ : ∃ q, q = rd o (j : Int) := ⟨_, rfl⟩
          rw [← hq] at hc0 hro
          rw [← hro] at hr0
          have hq0 : 0 ≤ q := hr0.1
          have hqn : q < (n : Int) := by have := HN.out; omega
          obtain ⟨adx, rfl, hcx⟩ := sl_at (HS.out.sl HSX.out) q hq0 (by have := HL.out; omega)
          obtain ⟨adk, rfl, hck⟩ := sl_at (HS.out.sl HSK.out) q hq0 (by have := HL.out; omega)
          have hd : (o.take (K)).drop j = q :: (o.take (K)).drop (j + 1) := by
            rw [List.drop_eq_getElem_cons (by simp; omega), List.getElem_take, ← hro]
          have HEE := Aside0.mk (HE.out.trans (by rw [hd]; rfl : _ = (if rd x q < rd key q then -1 else if rd x q > rd key q then 1 else cmpL ((o.take (K)).drop (j + 1)) x key)))
          have h5 := pw_cell_below HS.out.b c5
          have h2 := pw_cell_below HS.out.b c2
          have hjt : ((j : Int)).toNat = j := by omega
          rw [hjt] at hc0
          have hj1 : (j : Int) < ((K : Nat) : Int) := by omega
          clear hr0 hro hq hd hjo
          obtain ⟨a, ha⟩ : ∃ a, a = rd x q := ⟨_, rfl⟩
          obtain ⟨b, hb⟩ : ∃ b, b = rd key q := ⟨_, rfl⟩
          rw [← ha, ← hb] at HEE
          rw [← ha] at hcx
          rw [← hb] at hck
          clear ha hb
          by_cases hab : a = b
          · subst hab
            have HX := Aside0.mk (HEE.out.trans (by simp : _ = cmpL ((o.take (K)).drop (j + 1)) x key))
            go_wp2
            go_quiet (fail)
            go_wp2
            obtain ⟨g2, hg2⟩ : ∃ g2, g2 = gk - 1 := ⟨_, rfl⟩
            go_roundg g2
            case measure => have := HJ.out; omega
            case rel => exact ⟨j + 1, by go_num, ⟨by have := HJ.out; omega⟩, HX, ⟨HS.out.drewN _⟩⟩
          · have hab2 : (a == b) = false := beq_eq_false_iff_ne.2 hab
            have HX := Aside0.mk (show decide (cmpL (o.take (K)) x key < 0) = decide (a < b) from by
              rw [HEE.out]
              by_cases h : a < b
              · simp [h]
              · rw [if_neg h, if_pos (by omega)]; simp; omega)
            clear HEE
            go_wp2
            go_quiet (fail)
            go_wp2
            go_quiet (fail)
            go_wp2
            go_ret
            exact ⟨by rw [HP.out, HX.out]; rfl, (((HS.out.drewN _).drewN _).b)⟩
        · obtain rfl : j = K := by have := HJ.out; omega
          have HX := Aside0.mk (show decide (cmpL (o.take (j)) x key < 0) = false from by
            rw [HE.out, List.drop_of_length_le (by simp; omega)]; rfl)
          go_wp2
          go_ret
          exact ⟨by rw [HP.out, HX.out]; rfl, HS.out.b⟩

end Go.Proofs.Ytcmllllbmgcnlaa.Tup

namespace Go.Proofs.Ytcmllllbmgcnlaa.Tup
open Go.RowKit Go.Lib Go.Shelf Go.Proofs.Ytcmllllbmgcnlaa.F Go.Proofs.YtcmllllbmgcnlaaW.PrintWords Go.Proofs.YtcmllllbmgcnlaaW.PrintLast Go.Proofs.YtcmllllbmgcnlaaW.PrintMore
set_option linter.unusedVariables false
set_option linter.unusedSimpArgs false
attribute [local go_sem] Oper.semAt_some

theorem Handed1.later {W0 W1 W2 : World} {A : Option Addr} {c : Nat} {x : Tp} (h : Handed1 W0 W1 A c x) (hb : Below W1.heap.size W1 W2) : Handed1 W0 W2 A c x :=
  ⟨below_then h.1 h.1.size hb, own_move h.2 fun k hk => hb.block k (own_lt h.2 k hk.symm)⟩

set_option maxRecDepth 100000 in
set_option maxHeartbeats 1000000 in
/-- The round that Range hands to walk: a head first. -/
theorem yieldR_in (F : Fence) (hd : F.depth = none) (hF : ∀ f, F.fn f) (hro : F.round = none) (l : Nat) (fp : Nat → Prop) (J Jx : List Tp → World → Prop) (xs : List Tp) (B5 B3 B2 B4 : Nat) (Ao : Option Addr) (co : Nat) (o : Tp) (k : Int) (Ak : Option Addr) (ck : Nat) (key : Tp)
    (hhd : ∀ n W A c x, Sl W Ao co o → Sl W A c x → Sl W Ak ck key → CallsIn F n Try.prog 62 #[.slice Ao o.length co, .int .i64 k, .slice A x.length c, .slice Ak key.length ck] W fun e w' => e = .returned (.bool (headS o k x key)) ∧ Below W.heap.size W w')
    (hR : Rounds F Try.prog l J Jx fp xs) (m : Nat) (pre : List Tp) (x : Tp) (A : Option Addr) (c : Nat) (W0 W1 : World) (c5 : W1.cell? ⟨B5, 0, none⟩ = some (.slice Ao o.length co)) (c3 : W1.cell? ⟨B3, 0, none⟩ = some (.int .i64 k)) (c2 : W1.cell? ⟨B2, 0, none⟩ = some (.slice Ak key.length ck)) (c4 : W1.cell? ⟨B4, 0, none⟩ = some (.func (.yield l) #[] #[])) (so : Sl W1 Ao co o) (sk : Sl W1 Ak ck key)
    (hJ : J pre W0) (hpre : headS o k x key = true → pre ++ [x] <+: xs) (hh : Handed1 W0 W1 A c x) :
    CallsIn F m Try.prog 61 #[.slice A x.length c, .pointer (some ⟨B5, 0, none⟩), .pointer (some ⟨B3, 0, none⟩), .pointer (some ⟨B2, 0, none⟩), .pointer (some ⟨B4, 0, none⟩)] W1 fun e W' =>
      (e = .returned (.bool true) ∧ headS o k x key = true ∧ J (pre ++ [x]) W' ∧ KpF fp W1 W') ∨ (e = .returned (.bool false) ∧ ((headS o k x key = true ∧ Jx (pre ++ [x]) W') ∨ (headS o k x key = false ∧ Below W1.heap.size W1 W'))) := by
  have hdd : ∀ k : Nat, (F.depth.isSome = true → 1 ≤ k) := fun k h => by rw [hd] at h; cases h
  have HC := Aside0.mk (hhd (m - 1) W1 A c x so hh.sl sk)
  have HR := Aside0.mk hR
  have HH := Aside0.mk hh
  have HJ := Aside0.mk hJ
  have HP := Aside0.mk hpre
  clear hhd hR hh hJ hpre so sk
  by_cases hx : headS o k x key = true
  · rw [hx] at HC
    have HX := Aside0.mk hx
    clear hx
    refine callsIn_of_wp Try.func61 rfl (hF _) ?_ hro
    simp only [Try.ntmps61, List.size_toArray, List.length_cons, List.length_nil, Nat.reduceAdd, Nat.reduceSub, Array.replicate_succ, Array.replicate_zero, List.push_toArray, List.append_toArray, List.nil_append, List.cons_append]
    gi_wp2_with (first
      | ((try refine ⟨hdd _, ?_⟩); gi_at_call 62; refine HC.out.mono ?_; clear HC; rintro e w2 ⟨rfl, hb⟩; have c4b := pw_cell_below hb c4; obtain ⟨fn, tmps, assign, body, hy, hRo⟩ := HR.out (m - 1) pre x A c W0 w2 HJ.out (HP.out HX.out) (HH.out.later hb); have HB := Aside0.mk hb; clear hb)
      | ((try refine ⟨hdd _, ?_⟩); refine hRo.mono ?_; clear hRo; rintro e w3 (⟨rfl, hJ3, hk3⟩ | ⟨rfl, hx3⟩)))
    · go_ret
      exact .inl ⟨rfl, HX.out, hJ3, (KpF.below HB.out).trans hk3⟩
    · go_ret
      exact .inr ⟨rfl, .inl ⟨HX.out, hx3⟩⟩
  · have hx2 : headS o k x key = false := by simpa using hx
    rw [hx2] at HC
    have HX := Aside0.mk hx2
    clear hx hx2
    refine callsIn_of_wp Try.func61 rfl (hF _) ?_ hro
    simp only [Try.ntmps61, List.size_toArray, List.length_cons, List.length_nil, Nat.reduceAdd, Nat.reduceSub, Array.replicate_succ, Array.replicate_zero, List.push_toArray, List.append_toArray, List.nil_append, List.cons_append]
    gi_wp2_with (first
      | ((try refine ⟨hdd _, ?_⟩); gi_at_call 62; refine HC.out.mono ?_; clear HC; rintro e w2 ⟨rfl, hb⟩; have HB := Aside0.mk hb; clear hb))
    go_ret
    exact .inr ⟨rfl, .inr ⟨HX.out, HB.out⟩⟩

/-- What Range gives. -/
def rangeL (o : Tp) (k : Int) (key : Tp) (L : List Tp) : List Tp := if key.length = o.length then (sel (pR o k key) L).takeWhile (fun x => headS o k x key) else []

set_option maxRecDepth 100000 in
set_option maxHeartbeats 1000000 in
theorem range1_in (F : Fence) (hd : F.depth = none) (hF : ∀ f, F.fn f) (hro : F.round = none) (l : Nat) (W : World) (Bs Bk Bi bs rt : Nat) (Ao : Option Addr) (co : Nat) (o : Tp) (Ak : Option Addr) (ck : Nat) (key : Tp) (hBs : W.cell? ⟨Bs, 0, none⟩ = some (.pointer (some ⟨bs, 0, none⟩))) (hBk : W.cell? ⟨Bk, 0, none⟩ = some (.slice Ak key.length ck)) (h0 : W.cell? ⟨bs, 0, none⟩ = some (.bool true)) (h1 : W.cell? ⟨bs, 1, none⟩ = some (.slice Ao o.length co)) (h2 : W.cell? ⟨bs, 2, none⟩ = some (.pointer (some ⟨rt, 0, none⟩))) (R : World → Prop)
    (hfit : ∀ n W, W.cell? ⟨bs, 0, none⟩ = some (.bool true) → W.cell? ⟨bs, 1, none⟩ = some (.slice Ao o.length co) → CallsIn F n Try.prog 49 #[.pointer (some ⟨bs, 0, none⟩), .slice Ak key.length ck] W fun e w' => e = .returned (.bool (decide (key.length = o.length))) ∧ W = w')
    (hno : key.length ≠ o.length → ∀ W', Below W.heap.size W W' → R W')
    (hw : key.length = o.length → ∀ n Ww, Below W.heap.size W Ww → Ww.cell? ⟨W.heap.size, 0, none⟩ = some (.func (.yield l) #[] #[]) → Ww.cell? ⟨W.heap.size + 1, 0, none⟩ = some (.slice Ao o.length co) → W.heap.size + 2 ≤ Ww.heap.size → CallsIn F n Try.prog 53 #[.pointer (some ⟨rt, 0, none⟩), .func (.func 60) #[] #[.pointer (some ⟨W.heap.size + 1, 0, none⟩), .pointer (some ⟨Bi, 0, none⟩), .pointer (some ⟨Bk, 0, none⟩)], .func (.func 61) #[] #[.pointer (some ⟨W.heap.size + 1, 0, none⟩), .pointer (some ⟨Bi, 0, none⟩), .pointer (some ⟨Bk, 0, none⟩), .pointer (some ⟨W.heap.size, 0, none⟩)]] Ww fun e w' => (∃ b, e = .returned (.bool b)) ∧ R w') (n : Nat) :
    CallsIn F n Try.prog 59 #[.func (.yield l) #[] #[], .pointer (some ⟨Bs, 0, none⟩), .pointer (some ⟨Bk, 0, none⟩), .pointer (some ⟨Bi, 0, none⟩)] W fun e W' => (∃ v, e = .returned v) ∧ R W' := by
  have hdd : ∀ k : Nat, (F.depth.isSome = true → 1 ≤ k) := fun k h => by rw [hd] at h; cases h
  have hb1 : Below W.heap.size W (W.alloc (.cells #[.func (.yield l) #[] #[]] 74)) := below_alloc (Below.refl _ _) _
  have q1 := pw_cell_below hb1 hBs
  have q2 := pw_cell_below hb1 hBk
  have q3 := pw_cell_below hb1 h0
  have q4 := pw_cell_below hb1 h1
  have HF := Aside0.mk hfit
  have HNO := Aside0.mk hno
  have HW := Aside0.mk hw
  have hfc := HF.out (n - 1) _ q3 q4
  clear hfit hno hw
  by_cases hk : key.length = o.length
  · have hdec := decide_eq_true hk
    rw [hdec] at hfc
    have HK := Aside0.mk hk
    clear hdec hk
    refine callsIn_of_wp Try.func59 rfl (hF _) ?_ hro
    simp only [Try.ntmps59, List.size_toArray, List.length_cons, List.length_nil, Nat.reduceAdd, Nat.reduceSub, Array.replicate_succ, Array.replicate_zero, List.push_toArray, List.append_toArray, List.nil_append, List.cons_append]
    have hbw : Below W.heap.size W ((W.alloc (.cells #[.func (.yield l) #[] #[]] 74)).alloc (.cells #[.slice Ao o.length co] 22)) := below_alloc hb1 _
    have q5 := pw_cell_below hbw hBs
    have q6 := pw_cell_below hbw h2
    have HBW := Aside0.mk hbw
    have HC4 := Aside0.mk (show ((W.alloc (.cells #[.func (.yield l) #[] #[]] 74)).alloc (.cells #[.slice Ao o.length co] 22)).cell? ⟨W.heap.size, 0, none⟩ = some (.func (.yield l) #[] #[]) from
      (cell_of_heap (blk (below_alloc (Below.refl _ _) _) (heap_alloc_new W (.cells #[.func (.yield l) #[] #[]] 74))) 0).trans rfl)
    have HC5 := Aside0.mk (show ((W.alloc (.cells #[.func (.yield l) #[] #[]] 74)).alloc (.cells #[.slice Ao o.length co] 22)).cell? ⟨W.heap.size + 1, 0, none⟩ = some (.slice Ao o.length co) from by
      have := heap_alloc_new (W.alloc (.cells #[.func (.yield l) #[] #[]] 74)) (.cells #[.slice Ao o.length co] 22)
      rw [World.size_alloc] at this
      exact (cell_of_heap this 0).trans rfl)
    have HSZ : Aside0 (W.heap.size + 2 ≤ ((W.alloc (.cells #[.func (.yield l) #[] #[]] 74)).alloc (.cells #[.slice Ao o.length co] 22)).heap.size) := ⟨by simp⟩
    clear hbw
    gi_wp2_with (first
      | ((try refine ⟨hdd _, ?_⟩); gi_at_call 49; refine hfc.mono ?_; clear hfc; rintro e w1 ⟨rfl, rfl⟩)
      | ((try refine ⟨hdd _, ?_⟩); gi_at_call 53; refine (HW.out HK.out _ _ HBW.out HC4.out HC5.out HSZ.out).mono ?_; rintro e w3 ⟨⟨b, rfl⟩, hR3⟩))
    go_end0
    exact ⟨⟨_, rfl⟩, hR3⟩
  · have hdec := decide_eq_false hk
    rw [hdec] at hfc
    have HK := Aside0.mk hk
    clear hdec hk
    refine callsIn_of_wp Try.func59 rfl (hF _) ?_ hro
    simp only [Try.ntmps59, List.size_toArray, List.length_cons, List.length_nil, Nat.reduceAdd, Nat.reduceSub, Array.replicate_succ, Array.replicate_zero, List.push_toArray, List.append_toArray, List.nil_append, List.cons_append]
    gi_wp2_with (first
      | ((try refine ⟨hdd _, ?_⟩); gi_at_call 49; refine hfc.mono ?_; clear hfc; rintro e w1 ⟨rfl, rfl⟩))
    refine bodyPost_ret (results_none rfl _ _ _) rfl ?_
    exact ⟨⟨_, rfl⟩, HNO.out HK.out _ hb1⟩

theorem rt_take {o : Tp} (m : Nat) (h : ∀ c ∈ o, 0 ≤ c) : True := trivial
/-- Below a head: the tuples that come first. -/
theorem pR_closed {o : Tp} {k : Int} {key x y : Tp} (hxy : Lt o x y) (hy : pR o k key y = true) : pR o k key x = true := by
  have hy' : cmpL (o.take k.toNat) y key < 0 := by simpa [pR] using hy
  have h1 : cmpL (o.take k.toNat) x y ≤ 0 := by
    have : ∀ (o : Tp) (m : Nat), cmpL o x y ≤ 0 → cmpL (o.take m) x y ≤ 0 := by
      intro o
      induction o with
      | nil => intro m h; simpa using h
      | cons c o ih =>
        intro m h
        cases m with
        | zero => simp [cmpL]
        | succ m =>
          simp only [List.take_succ_cons, cmpL] at h ⊢
          by_cases p1 : rd x c < rd y c
          · rw [if_pos p1]; decide
          · rw [if_neg p1] at h ⊢
            by_cases p2 : rd x c > rd y c
            · rw [if_pos p2] at h; omega
            · rw [if_neg p2] at h ⊢; exact ih m h
    exact this o _ (by have : cmpL o x y < 0 := hxy; omega)
  have h2 := cmpL_trans (o.take k.toNat) x y key h1 (by omega)
  have h3 : cmpL (o.take k.toNat) x key ≠ 0 := by
    intro h0
    -- then key is not above x, and y not above key
    have h4 : cmpL (o.take k.toNat) key x = 0 := by rw [cmpL_flip, h0]; rfl
    have h5 := cmpL_trans (o.take k.toNat) key x y (by omega) h1
    have h6 := cmpL_flip (o.take k.toNat) y key
    omega
  simp [pR]; omega
theorem pF_closed {o key x y : Tp} (hk : Fit o key) (hx : Fit o x) (hy0 : Fit o y) (hxy : Lt o x y) (hy : pF o key y = true) : pF o key x = true := by
  have hy' : cmpS o y key < 0 := by simpa [pF] using hy
  rw [cmpS_fit hy0 hk] at hy'
  have : cmpS o x key < 0 := by
    rw [cmpS_fit hx hk]
    exact Lt.trans hxy hy'
  simpa [pF] using this

theorem take_pre {α : Type} (p : α → Bool) {pre L : List α} (h : pre <+: L) (ha : ∀ a ∈ pre, p a = true) : pre <+: L.takeWhile p := by
  obtain ⟨r, rfl⟩ := h
  rw [List.takeWhile_append_of_pos ha]
  exact List.prefix_append _ _
theorem take_stop {α : Type} (p : α → Bool) {pre L : List α} {x : α} (h : pre ++ [x] <+: L) (ha : ∀ a ∈ pre, p a = true) (hx : p x = false) : L.takeWhile p = pre := by
  obtain ⟨r, rfl⟩ := h
  rw [List.append_assoc, List.takeWhile_append_of_pos ha]
  simp [hx]
theorem take_all {α : Type} (p : α → Bool) {L : List α} (ha : ∀ a ∈ L, p a = true) : L.takeWhile p = L := by
  have := List.takeWhile_append_of_pos (p := p) (l₁ := L) (l₂ := []) ha
  simpa using this

/-- What Range's value gives. -/
theorem range_seq {ok fp : Nat → Prop} (w : World) (Bs Bk Bi bs : Nat) {A : Option Addr} {c : Nat} {o : Tp} {rt : Nat} {T : BT} (h : SetAt ok w bs A c o rt T) (hfp : ∀ k, ok k → fp k) (hBs : w.cell? ⟨Bs, 0, none⟩ = some (.pointer (some ⟨bs, 0, none⟩))) (Ak : Option Addr) (ck : Nat) (key : Tp) (hBk : w.cell? ⟨Bk, 0, none⟩ = some (.slice Ak key.length ck)) (fBk : fp Bk) (hck : key.length ≤ ck) (hkey : Kd.F (Kd.int .i64) w fp Ak key.length key) (k : Int) (hBi : w.cell? ⟨Bi, 0, none⟩ = some (.int .i64 k)) (fBi : fp Bi) :
    SeqR Fence.wide Try.prog 59 #[.pointer (some ⟨Bs, 0, none⟩), .pointer (some ⟨Bk, 0, none⟩), .pointer (some ⟨Bi, 0, none⟩)] fp (rangeL o k key T.io) w := by
  intro l J Jx W hW hJ hJx hR h0 n
  have hs := h.since ⟨hW⟩
  have hBkW := pw_cell_below hW hBk
  have hBiW := pw_cell_below hW hBi
  refine range1_in Fence.wide rfl (fun _ => trivial) rfl l W Bs Bk Bi bs rt A c o Ak ck key (pw_cell_below hW hBs) hBkW hs.c0 hs.c1 hs.c2 _ (fun n W a b => callsIn_wide.2 (fits_calls W bs A c o a b Ak ck key)) (fun hl W' hb => ⟨W'.heap.size, hb.size, .inl (by rw [rangeL, if_neg hl]; exact h0 W' hb)⟩) (fun hl n Ww hb c4 c5 hsz => ?_) n
  have hxs : rangeL o k key T.io = (sel (pR o k key) T.io).takeWhile (fun x => headS o k x key) := by rw [rangeL, if_pos hl]
  rw [hxs] at hR ⊢
  have hsw := hs.since ⟨hb⟩
  have hkW : Kd.F (Kd.int .i64) Ww (Priv fp W.heap.size Ww.heap.size) Ak key.length key := Kd.F_mono (Kd.F_below (Kd.F_below hkey hW) hb) (fun k hk => .inl hk)
  have hoW : Kd.F (Kd.int .i64) Ww (Priv fp W.heap.size Ww.heap.size) A o.length o := Kd.F_mono hsw.F (fun k hk => .inl (hfp k hk))
  have p5 : Priv fp W.heap.size Ww.heap.size (W.heap.size + 1) := .inr ⟨by omega, by omega⟩
  have p4 : Priv fp W.heap.size Ww.heap.size W.heap.size := .inr ⟨by omega, by omega⟩
  have c3 := pw_cell_below hb hBiW
  have c2 := pw_cell_below hb hBkW
  have hRN := hR Ww.heap.size (by omega)
  have hJN := hJ Ww.heap.size (by omega)
  have := walkR_in (W.heap.size + 1) Bi Bk W.heap.size Fence.wide rfl (fun _ => trivial) rfl l (Priv fp W.heap.size Ww.heap.size) (fun pre V => J Ww.heap.size pre V ∧ ∀ a ∈ pre, headS o k a key = true) (fun q V => (Jx Ww.heap.size q V ∧ q <+: (sel (pR o k key) T.io).takeWhile (fun x => headS o k x key)) ∨ J Ww.heap.size ((sel (pR o k key) T.io).takeWhile (fun x => headS o k x key)) V) (sel (pR o k key) T.io) o (pR o k key) Ww (fun a => a.length = o.length) (fun a ha => by have := hs.rto.1; omega) clone_wide
    (fun n V A2 c2' x hK hQ hsl => callsIn_wide.2 (belowR_calls V _ _ _ A c o k Ak ck key (hK.cell p5 c5) (hK.cell (.inl fBi) c3) (hK.cell (.inl fBk) c2) ⟨Kd.F_now (Kd.F_step hoW hK.same), hs.so⟩ ⟨Kd.F_now (Kd.F_step hkW hK.same), hck⟩ hs.rto hl A2 c2' x hsl hQ))
    (fun s V V' hj hb => ⟨abides_none hJN s V V' hj.1 hb, hj.2⟩)
    (fun m pre x A2 c2' V0 V1 hK hj hpre hh => by
      refine (yieldR_in Fence.wide rfl (fun _ => trivial) rfl l (Priv fp W.heap.size Ww.heap.size) (J Ww.heap.size) (Jx Ww.heap.size) _ (W.heap.size + 1) Bi Bk W.heap.size A c o k Ak ck key (fun n V A3 c3 x so sx sk => callsIn_wide.2 (head_calls A c o k A3 c3 x Ak ck key V so sx sk)) hRN m pre x A2 c2' V0 V1 (hK.cell p5 c5) (hK.cell (.inl fBi) c3) (hK.cell (.inl fBk) c2) (hK.cell p4 c4) ⟨Kd.F_now (Kd.F_step hoW hK.same), hs.so⟩ ⟨Kd.F_now (Kd.F_step hkW hK.same), hck⟩ hj.1 (fun hx => take_pre _ hpre (fun a ha => by
        rcases List.mem_append.1 ha with ha | ha
        · exact hj.2 a ha
        · simp at ha; subst ha; exact hx)) hh).mono ?_
      rintro e V' (⟨rfl, hx, hJ', hk'⟩ | ⟨rfl, ⟨hx, hx'⟩ | ⟨hx, hb'⟩⟩)
      · exact .inl ⟨rfl, ⟨hJ', fun a ha => by
          rcases List.mem_append.1 ha with ha | ha
          · exact hj.2 a ha
          · simp at ha; subst ha; exact hx⟩, hk'⟩
      · exact .inr ⟨rfl, .inl ⟨hx', take_pre _ hpre (fun a ha => by
          rcases List.mem_append.1 ha with ha | ha
          · exact hj.2 a ha
          · simp at ha; subst ha; exact hx)⟩⟩
      · refine .inr ⟨rfl, .inr ?_⟩
        rw [take_stop _ hpre hj.2 hx]
        exact abides_none hJN _ _ _ hj.1 (below_then hh.1 hh.1.size hb'))
    _ T (Nat.lt_succ_self _) n rt [] Ww (hsw.nd.mono fun k hk => .inl (hfp k hk)) hsw.wf hsw.up (fun x y _ _ hxy hy => pR_closed hxy hy) (fun a ha => (hs.fit a ha).1) hs.le (KpF.refl _ _) ⟨h0 Ww hb, fun a ha => by simp at ha⟩ (by simp)
  refine this.mono ?_
  rintro e V' (⟨rfl, ⟨hj, hall⟩, hk⟩ | ⟨rfl, q, hq, hx⟩)
  · refine ⟨⟨_, rfl⟩, Ww.heap.size, by omega, .inl ?_⟩
    rw [List.nil_append] at hj hall
    rw [take_all _ hall]; exact hj
  · refine ⟨⟨_, rfl⟩, Ww.heap.size, by omega, ?_⟩
    rcases hx with ⟨hx, hp⟩ | hx
    · exact .inr ⟨_, hp, hx⟩
    · exact .inl hx

end Go.Proofs.Ytcmllllbmgcnlaa.Tup

namespace Go.Proofs.Ytcmllllbmgcnlaa.Tup
open Go.RowKit Go.Lib Go.Shelf Go.Proofs.Ytcmllllbmgcnlaa.F Go.Proofs.YtcmllllbmgcnlaaW.PrintWords Go.Proofs.YtcmllllbmgcnlaaW.PrintLast Go.Proofs.YtcmllllbmgcnlaaW.PrintMore
set_option linter.unusedVariables false
set_option linter.unusedSimpArgs false
attribute [local go_sem] Oper.semAt_some

/-- What From gives. -/
def fromL (o key : Tp) (L : List Tp) : List Tp := if key.length = o.length then sel (pF o key) L else []

set_option maxRecDepth 100000 in
set_option maxHeartbeats 1000000 in
theorem from1_in (F : Fence) (hd : F.depth = none) (hF : ∀ f, F.fn f) (hro : F.round = none) (l : Nat) (W : World) (Bs Bk bs rt : Nat) (Ao : Option Addr) (co : Nat) (o : Tp) (Ak : Option Addr) (ck : Nat) (key : Tp) (hBs : W.cell? ⟨Bs, 0, none⟩ = some (.pointer (some ⟨bs, 0, none⟩))) (hBk : W.cell? ⟨Bk, 0, none⟩ = some (.slice Ak key.length ck)) (h0 : W.cell? ⟨bs, 0, none⟩ = some (.bool true)) (h1 : W.cell? ⟨bs, 1, none⟩ = some (.slice Ao o.length co)) (h2 : W.cell? ⟨bs, 2, none⟩ = some (.pointer (some ⟨rt, 0, none⟩))) (R : World → Prop)
    (hfit : ∀ n W, W.cell? ⟨bs, 0, none⟩ = some (.bool true) → W.cell? ⟨bs, 1, none⟩ = some (.slice Ao o.length co) → CallsIn F n Try.prog 49 #[.pointer (some ⟨bs, 0, none⟩), .slice Ak key.length ck] W fun e w' => e = .returned (.bool (decide (key.length = o.length))) ∧ W = w')
    (hno : key.length ≠ o.length → ∀ W', Below W.heap.size W W' → R W')
    (hw : key.length = o.length → ∀ n Ww, Below W.heap.size W Ww → Ww.cell? ⟨W.heap.size, 0, none⟩ = some (.slice Ao o.length co) → W.heap.size + 1 ≤ Ww.heap.size → CallsIn F n Try.prog 53 #[.pointer (some ⟨rt, 0, none⟩), .func (.func 64) #[] #[.pointer (some ⟨W.heap.size, 0, none⟩), .pointer (some ⟨Bk, 0, none⟩)], .func (.yield l) #[] #[]] Ww fun e w' => (∃ b, e = .returned (.bool b)) ∧ R w') (n : Nat) :
    CallsIn F n Try.prog 63 #[.func (.yield l) #[] #[], .pointer (some ⟨Bs, 0, none⟩), .pointer (some ⟨Bk, 0, none⟩)] W fun e W' => (∃ v, e = .returned v) ∧ R W' := by
  have hdd : ∀ k : Nat, (F.depth.isSome = true → 1 ≤ k) := fun k h => by rw [hd] at h; cases h
  have HF := Aside0.mk hfit
  have HNO := Aside0.mk hno
  have HW := Aside0.mk hw
  have hfc := HF.out (n - 1) _ h0 h1
  clear hfit hno hw
  by_cases hk : key.length = o.length
  · have hdec := decide_eq_true hk
    rw [hdec] at hfc
    have HK := Aside0.mk hk
    clear hdec hk
    refine callsIn_of_wp Try.func63 rfl (hF _) ?_ hro
    simp only [Try.ntmps63, List.size_toArray, List.length_cons, List.length_nil, Nat.reduceAdd, Nat.reduceSub, Array.replicate_succ, Array.replicate_zero, List.push_toArray, List.append_toArray, List.nil_append, List.cons_append]
    have hbw : Below W.heap.size W (W.alloc (.cells #[.slice Ao o.length co] 22)) := below_alloc (Below.refl _ _) _
    have q5 := pw_cell_below hbw hBs
    have q6 := pw_cell_below hbw h2
    have HBW := Aside0.mk hbw
    have HC4 := Aside0.mk (show (W.alloc (.cells #[.slice Ao o.length co] 22)).cell? ⟨W.heap.size, 0, none⟩ = some (.slice Ao o.length co) from
      (cell_of_heap (heap_alloc_new W (.cells #[.slice Ao o.length co] 22)) 0).trans rfl)
    have HSZ : Aside0 (W.heap.size + 1 ≤ (W.alloc (.cells #[.slice Ao o.length co] 22)).heap.size) := ⟨by simp⟩
    clear hbw
    gi_wp2_with (first
      | ((try refine ⟨hdd _, ?_⟩); gi_at_call 49; refine hfc.mono ?_; clear hfc; rintro e w1 ⟨rfl, rfl⟩)
      | ((try refine ⟨hdd _, ?_⟩); gi_at_call 53; refine (HW.out HK.out _ _ HBW.out HC4.out HSZ.out).mono ?_; rintro e w3 ⟨⟨b, rfl⟩, hR3⟩))
    go_end0
    exact ⟨⟨_, rfl⟩, hR3⟩
  · have hdec := decide_eq_false hk
    rw [hdec] at hfc
    have HK := Aside0.mk hk
    clear hdec hk
    refine callsIn_of_wp Try.func63 rfl (hF _) ?_ hro
    simp only [Try.ntmps63, List.size_toArray, List.length_cons, List.length_nil, Nat.reduceAdd, Nat.reduceSub, Array.replicate_succ, Array.replicate_zero, List.push_toArray, List.append_toArray, List.nil_append, List.cons_append]
    gi_wp2_with (first
      | ((try refine ⟨hdd _, ?_⟩); gi_at_call 49; refine hfc.mono ?_; clear hfc; rintro e w1 ⟨rfl, rfl⟩))
    go_end0
    exact ⟨⟨_, rfl⟩, HNO.out HK.out _ (Below.refl _ _)⟩

/-- What From's value gives. -/
theorem from_seq {ok fp : Nat → Prop} (w : World) (Bs Bk bs : Nat) {A : Option Addr} {c : Nat} {o : Tp} {rt : Nat} {T : BT} (h : SetAt ok w bs A c o rt T) (hfp : ∀ k, ok k → fp k) (hBs : w.cell? ⟨Bs, 0, none⟩ = some (.pointer (some ⟨bs, 0, none⟩))) (Ak : Option Addr) (ck : Nat) (key : Tp) (hBk : w.cell? ⟨Bk, 0, none⟩ = some (.slice Ak key.length ck)) (fBk : fp Bk) (hck : key.length ≤ ck) (hkey : Kd.F (Kd.int .i64) w fp Ak key.length key) :
    SeqR Fence.wide Try.prog 63 #[.pointer (some ⟨Bs, 0, none⟩), .pointer (some ⟨Bk, 0, none⟩)] fp (fromL o key T.io) w := by
  intro l J Jx W hW hJ hJx hR h0 n
  have hs := h.since ⟨hW⟩
  have hBkW := pw_cell_below hW hBk
  refine from1_in Fence.wide rfl (fun _ => trivial) rfl l W Bs Bk bs rt A c o Ak ck key (pw_cell_below hW hBs) hBkW hs.c0 hs.c1 hs.c2 _ (fun n W a b => callsIn_wide.2 (fits_calls W bs A c o a b Ak ck key)) (fun hl W' hb => ⟨W'.heap.size, hb.size, .inl (by rw [fromL, if_neg hl]; exact h0 W' hb)⟩) (fun hl n Ww hb c4 hsz => ?_) n
  have hxs : fromL o key T.io = sel (pF o key) T.io := by rw [fromL, if_pos hl]
  rw [hxs] at hR ⊢
  have hsw := hs.since ⟨hb⟩
  have hkW : Kd.F (Kd.int .i64) Ww (Priv fp W.heap.size Ww.heap.size) Ak key.length key := Kd.F_mono (Kd.F_below (Kd.F_below hkey hW) hb) (fun k hk => .inl hk)
  have hoW : Kd.F (Kd.int .i64) Ww (Priv fp W.heap.size Ww.heap.size) A o.length o := Kd.F_mono hsw.F (fun k hk => .inl (hfp k hk))
  have p4 : Priv fp W.heap.size Ww.heap.size W.heap.size := .inr ⟨by omega, by omega⟩
  have c2 := pw_cell_below hb hBkW
  have := walkF_in W.heap.size Bk Fence.wide rfl (fun _ => trivial) rfl l (Priv fp W.heap.size Ww.heap.size) (J Ww.heap.size) (Jx Ww.heap.size) (sel (pF o key) T.io) o (pF o key) Ww (fun a => a.length = o.length) (fun a ha => by have := hs.rto.1; omega) clone_wide
    (fun n V A2 c2' x hK hQ hsl => callsIn_wide.2 (belowF_calls V _ _ A c o Ak ck key (hK.cell p4 c4) (hK.cell (.inl fBk) c2) ⟨Kd.F_now (Kd.F_step hoW hK.same), hs.so⟩ ⟨Kd.F_now (Kd.F_step hkW hK.same), hck⟩ A2 c2' x hsl))
    (abides_none (hJ Ww.heap.size (by omega))) (hR Ww.heap.size (by omega))
    _ T (Nat.lt_succ_self _) n rt [] Ww (hsw.nd.mono fun k hk => .inl (hfp k hk)) hsw.wf hsw.up (fun x y hx hy hxy hp => pF_closed ⟨hl, hs.rto⟩ (hs.fit x hx) (hs.fit y hy) hxy hp) (fun a ha => (hs.fit a ha).1) hs.le (KpF.refl _ _) (h0 Ww hb) (by simp)
  refine this.mono ?_
  rintro e V' (⟨rfl, hj, hk⟩ | ⟨rfl, q, hq, hx⟩)
  · exact ⟨⟨_, rfl⟩, Ww.heap.size, by omega, .inl (by simpa using hj)⟩
  · exact ⟨⟨_, rfl⟩, Ww.heap.size, by omega, .inr ⟨q, hq, by simpa using hx⟩⟩

end Go.Proofs.Ytcmllllbmgcnlaa.Tup

namespace Go.Proofs.Ytcmllllbmgcnlaa.Tup
open Go.RowKit Go.Lib Go.Shelf Go.Proofs.Ytcmllllbmgcnlaa.F Go.Proofs.YtcmllllbmgcnlaaW.PrintWords Go.Proofs.YtcmllllbmgcnlaaW.PrintLast Go.Proofs.YtcmllllbmgcnlaaW.PrintMore
set_option linter.unusedVariables false
set_option linter.unusedSimpArgs false

/-- What Range answers: a function over three boxes. -/
def RangeC (W : World) (v : Value) (k : Int) (t : Tp) (e : Ending) (w' : World) : Prop :=
  ∃ Bs Bk Bi Ak ck, e = .returned (.func (.func 59) #[] #[.pointer (some ⟨Bs, 0, none⟩), .pointer (some ⟨Bk, 0, none⟩), .pointer (some ⟨Bi, 0, none⟩)]) ∧ w'.cell? ⟨Bs, 0, none⟩ = some v ∧ w'.cell? ⟨Bi, 0, none⟩ = some (.int .i64 k) ∧ w'.cell? ⟨Bk, 0, none⟩ = some (.slice Ak t.length ck) ∧ t.length ≤ ck ∧ Kd.F (Kd.int .i64) w' (fun j => W.heap.size ≤ j) Ak t.length t ∧ Below W.heap.size W w'
def FromC (W : World) (v : Value) (t : Tp) (e : Ending) (w' : World) : Prop :=
  ∃ Bs Bk Ak ck, e = .returned (.func (.func 63) #[] #[.pointer (some ⟨Bs, 0, none⟩), .pointer (some ⟨Bk, 0, none⟩)]) ∧ w'.cell? ⟨Bs, 0, none⟩ = some v ∧ w'.cell? ⟨Bk, 0, none⟩ = some (.slice Ak t.length ck) ∧ t.length ≤ ck ∧ Kd.F (Kd.int .i64) w' (fun j => W.heap.size ≤ j) Ak t.length t ∧ Below W.heap.size W w'

set_option maxHeartbeats 2000000 in
set_option maxRecDepth 100000 in
theorem rangec_calls (W : World) (p : Option Addr) (k : Int) (At : Option Addr) (ct : Nat) (t : Tp) (st : Sl W At ct t) (hn : t.length ≤ 1000000) :
    Calls Try.prog 29 #[.pointer p, .int .i64 k, .slice At t.length ct] W (RangeC W (.pointer p) k t) := by
  have HST := Aside0.mk st
  have HN := Aside0.mk hn
  clear st hn
  have hb2 : Below W.heap.size W ((W.alloc (.cells #[.pointer p] 24)).alloc (.cells #[.int .i64 k] 3)) := below_alloc (below_alloc (Below.refl _ _) _) _
  have HB2 := Aside0.mk hb2
  have HS2 := Aside0.mk (Sl.below HST.out hb2)
  clear hb2
  go_enter Try.func29, Try.ntmps29
  go_wp2_with (go_at_call 47; ((with_reducible refine (cloneI_calls _ At ct t HS2.out HN.out).mono ?_)); rintro e w2 ⟨A2, c2, rfl, hc2, hF2, hb2⟩)
  go_ret
  have hlt : ((W.alloc (.cells #[.pointer p] 24)).alloc (.cells #[.int .i64 k] 3)).heap.size = W.heap.size + 2 := by simp
  have hbw : Below W.heap.size W w2 := below_then HB2.out HB2.out.size hb2
  have a3 := below_alloc (Below.refl w2.heap.size w2) (.cells #[.slice A2 t.length c2] 22)
  refine ⟨W.heap.size, w2.heap.size, W.heap.size + 1, A2, c2, rfl, ?_, ?_, ?_, hc2, Kd.F_mono (Kd.F_below hF2 a3) (fun j hj => by omega), below_then hbw hbw.size a3⟩
  · exact (cell_of_heap (blk a3 (blk hb2 (blk (below_alloc (Below.refl _ _) _) (heap_alloc_new W (.cells #[.pointer p] 24))))) 0).trans rfl
  · have := heap_alloc_new (W.alloc (.cells #[.pointer p] 24)) (.cells #[.int .i64 k] 3)
    rw [World.size_alloc] at this
    exact (cell_of_heap (blk a3 (blk hb2 this)) 0).trans rfl
  · exact (cell_of_heap (heap_alloc_new w2 (.cells #[.slice A2 t.length c2] 22)) 0).trans rfl

set_option maxHeartbeats 2000000 in
set_option maxRecDepth 100000 in
theorem fromc_calls (W : World) (p : Option Addr) (At : Option Addr) (ct : Nat) (t : Tp) (st : Sl W At ct t) (hn : t.length ≤ 1000000) :
    Calls Try.prog 30 #[.pointer p, .slice At t.length ct] W (FromC W (.pointer p) t) := by
  have HST := Aside0.mk st
  have HN := Aside0.mk hn
  clear st hn
  have hb2 : Below W.heap.size W (W.alloc (.cells #[.pointer p] 24)) := below_alloc (Below.refl _ _) _
  have HB2 := Aside0.mk hb2
  have HS2 := Aside0.mk (Sl.below HST.out hb2)
  clear hb2
  go_enter Try.func30, Try.ntmps30
  go_wp2_with (go_at_call 47; ((with_reducible refine (cloneI_calls _ At ct t HS2.out HN.out).mono ?_)); rintro e w2 ⟨A2, c2, rfl, hc2, hF2, hb2⟩)
  go_ret
  have hlt : (W.alloc (.cells #[.pointer p] 24)).heap.size = W.heap.size + 1 := by simp
  have hbw : Below W.heap.size W w2 := below_then HB2.out HB2.out.size hb2
  have a3 := below_alloc (Below.refl w2.heap.size w2) (.cells #[.slice A2 t.length c2] 22)
  refine ⟨W.heap.size, w2.heap.size, A2, c2, rfl, ?_, ?_, hc2, Kd.F_mono (Kd.F_below hF2 a3) (fun j hj => by omega), below_then hbw hbw.size a3⟩
  · exact (cell_of_heap (blk a3 (blk hb2 (heap_alloc_new W (.cells #[.pointer p] 24)))) 0).trans rfl
  · exact (cell_of_heap (heap_alloc_new w2 (.cells #[.slice A2 t.length c2] 22)) 0).trans rfl

theorem listR_enters : ∀ args w, (callFunc 59 args).run Try.prog w = .ok (.enter 59 args) w := enters_of Try.func59 (by kernel_rfl) rfl
theorem listF_enters : ∀ args w, (callFunc 63 args).run Try.prog w = .ok (.enter 63 args) w := enters_of Try.func63 (by kernel_rfl) rfl
theorem sel_len (p : Tp → Bool) (L : List Tp) : (sel p L).length ≤ L.length := List.length_filter_le _ _
theorem rangeL_len (o : Tp) (k : Int) (key : Tp) (L : List Tp) : (rangeL o k key L).length ≤ L.length := by
  unfold rangeL
  split
  · exact Nat.le_trans (List.takeWhile_prefix _).length_le (sel_len _ _)
  · simp
theorem fromL_len (o key : Tp) (L : List Tp) : (fromL o key L).length ≤ L.length := by
  unfold fromL
  split
  · exact sel_len _ _
  · simp
/-- list over Range. -/
theorem listR_calls {ok Q : Nat → Prop} (W : World) (Bs Bk Bi bs : Nat) {A : Option Addr} {c : Nat} {o : Tp} {rt : Nat} {T : BT} (h : SetAt ok W bs A c o rt T) (hBs : W.cell? ⟨Bs, 0, none⟩ = some (.pointer (some ⟨bs, 0, none⟩))) (Ak : Option Addr) (ck : Nat) (key : Tp) (hBk : W.cell? ⟨Bk, 0, none⟩ = some (.slice Ak key.length ck)) (hck : key.length ≤ ck) (hkey : Kd.F (Kd.int .i64) W Q Ak key.length key) (k : Int) (hBi : W.cell? ⟨Bi, 0, none⟩ = some (.int .i64 k)) :
    Calls Try.prog 21 #[.func (.func 59) #[] #[.pointer (some ⟨Bs, 0, none⟩), .pointer (some ⟨Bk, 0, none⟩), .pointer (some ⟨Bi, 0, none⟩)]] W (ListR W (rangeL o k key T.io)) := by
  refine callsIn_wide (n := 3) |>.1 (list_in Fence.wide rfl (fun _ => trivial) rfl 3 W 59 _ listR_enters (fun k => k < W.heap.size) (fun k hk => hk) (rangeL o k key T.io) (by have := h.le; have := rangeL_len o k key T.io; omega) ?_)
  have hb : Below W.heap.size W (W.alloc (.cells #[.slice none 0 0] 23)) := below_alloc (Below.refl _ _) _
  exact range_seq _ Bs Bk Bi bs (h.bound.since ⟨hb⟩) (fun k hk => hk.2) (pw_cell_below hb hBs) Ak ck key (pw_cell_below hb hBk) (World.block_lt_of_cell? W _ hBk) hck (Kd.F_mono (Kd.F_below (Kd.F_bound hkey) hb) (fun k hk => hk.2)) k (pw_cell_below hb hBi) (World.block_lt_of_cell? W _ hBi)
/-- list over From. -/
theorem listF_calls {ok Q : Nat → Prop} (W : World) (Bs Bk bs : Nat) {A : Option Addr} {c : Nat} {o : Tp} {rt : Nat} {T : BT} (h : SetAt ok W bs A c o rt T) (hBs : W.cell? ⟨Bs, 0, none⟩ = some (.pointer (some ⟨bs, 0, none⟩))) (Ak : Option Addr) (ck : Nat) (key : Tp) (hBk : W.cell? ⟨Bk, 0, none⟩ = some (.slice Ak key.length ck)) (hck : key.length ≤ ck) (hkey : Kd.F (Kd.int .i64) W Q Ak key.length key) :
    Calls Try.prog 21 #[.func (.func 63) #[] #[.pointer (some ⟨Bs, 0, none⟩), .pointer (some ⟨Bk, 0, none⟩)]] W (ListR W (fromL o key T.io)) := by
  refine callsIn_wide (n := 3) |>.1 (list_in Fence.wide rfl (fun _ => trivial) rfl 3 W 63 _ listF_enters (fun k => k < W.heap.size) (fun k hk => hk) (fromL o key T.io) (by have := h.le; have := fromL_len o key T.io; omega) ?_)
  have hb : Below W.heap.size W (W.alloc (.cells #[.slice none 0 0] 23)) := below_alloc (Below.refl _ _) _
  exact from_seq _ Bs Bk bs (h.bound.since ⟨hb⟩) (fun k hk => hk.2) (pw_cell_below hb hBs) Ak ck key (pw_cell_below hb hBk) (World.block_lt_of_cell? W _ hBk) hck (Kd.F_mono (Kd.F_below (Kd.F_bound hkey) hb) (fun k hk => hk.2))

end Go.Proofs.Ytcmllllbmgcnlaa.Tup

namespace Go.Proofs.Ytcmllllbmgcnlaa.Tup
open Go.RowKit Go.Lib Go.Shelf Go.Proofs.Ytcmllllbmgcnlaa.F Go.Proofs.YtcmllllbmgcnlaaW.PrintWords Go.Proofs.YtcmllllbmgcnlaaW.PrintLast Go.Proofs.YtcmllllbmgcnlaaW.PrintMore
set_option linter.unusedVariables false
set_option linter.unusedSimpArgs false

/-- A new set. -/
def NewR (W : World) (o : Tp) (e : Ending) (w' : World) : Prop :=
  Below W.heap.size W w' ∧ ∃ bs A c rt, e = .returned (.tuple #[.pointer (some ⟨bs, 0, none⟩), .int .i64 0]) ∧ W.heap.size ≤ bs ∧ SetAt (fun k => W.heap.size ≤ k ∧ k < w'.heap.size ∧ k ≠ bs) w' bs A c o rt (.mk [] [])

theorem setAt_new {W w2 : World} {A : Option Addr} {c : Nat} {o : Tp} (ho : Rt o) (hb : Below W.heap.size W w2) (hc : o.length ≤ c) (hF : Kd.F (Kd.int .i64) w2 (fun k => W.heap.size ≤ k) A o.length o) :
    let w' := (w2.alloc (.cells #[.slice none 0 0, .slice none 0 0] 87)).alloc (.cells #[.bool true, .slice A o.length c, .pointer (some ⟨w2.heap.size, 0, none⟩), .int .i64 0] 65)
    Below W.heap.size W w' ∧ W.heap.size ≤ w2.heap.size + 1 ∧ SetAt (fun k => W.heap.size ≤ k ∧ k < w'.heap.size ∧ k ≠ w2.heap.size + 1) w' (w2.heap.size + 1) A c o w2.heap.size (.mk [] []) := by
  intro w'
  have a1 := below_alloc (Below.refl w2.heap.size w2) (.cells #[.slice none 0 0, .slice none 0 0] 87)
  have z1 : (w2.alloc (.cells #[.slice none 0 0, .slice none 0 0] 87)).heap.size = w2.heap.size + 1 := by simp
  have a2 := below_alloc (Below.refl (w2.alloc (.cells #[.slice none 0 0, .slice none 0 0] 87)).heap.size (w2.alloc (.cells #[.slice none 0 0, .slice none 0 0] 87))) (.cells #[.bool true, .slice A o.length c, .pointer (some ⟨w2.heap.size, 0, none⟩), .int .i64 0] 65)
  have hs2 : W.heap.size ≤ w2.heap.size := hb.size
  have zz : w'.heap.size = w2.heap.size + 2 := by simp [w']
  have hbw : Below w2.heap.size w2 w' := below_then a1 a1.size a2
  have hn : w'.heap[w2.heap.size]? = some (.cells #[.slice none 0 0, .slice none 0 0] 87 (0, 0)) := blk a2 (heap_alloc_new w2 _)
  have hp : w'.heap[w2.heap.size + 1]? = some (.cells #[.bool true, .slice A o.length c, .pointer (some ⟨w2.heap.size, 0, none⟩), .int .i64 0] 65 (0, 0)) := by
    have := heap_alloc_new (w2.alloc (.cells #[.slice none 0 0, .slice none 0 0] 87)) (.cells #[.bool true, .slice A o.length c, .pointer (some ⟨w2.heap.size, 0, none⟩), .int .i64 0] 65)
    rw [z1] at this; exact this
  refine ⟨below_then hb hb.size hbw, by omega, ⟨by rw [BT.io_mk]; exact hp, hc, ?_, ?_, (BT.ok_mk _ _).2 ⟨.inl rfl, by simp⟩, ho, fun a ha => by rw [BT.io_mk] at ha; simp [weave] at ha, by rw [BT.io_mk]; exact List.Pairwise.nil, by rw [BT.io_mk]; simp [weave], fun h => h.2.2 rfl⟩⟩
  · refine Kd.F_mono (Kd.F_below (Kd.F_bound hF) hbw) fun k hk => ⟨hk.1, by have := hk.2; omega, by have := hk.2; omega⟩
  · exact .mk _ none 0 none 0 [] [] [] ⟨hs2, by omega, by omega⟩ ((cell_of_heap hn 0).trans rfl) ((cell_of_heap hn 1).trans rfl) (Nat.le_refl _) (Nat.le_refl _) rfl (Kd.F_nil KT _ _) (Kd.F_nil KN _ _) (fun i h => by simp at h)

set_option maxHeartbeats 2000000 in
set_option maxRecDepth 100000 in
theorem new_yes (W : World) (A0 : Option Addr) (c0 : Nat) (o : Tp) (h0 : Sl W A0 c0 o) (ho : Rt o) :
    Calls Try.prog 16 #[.slice A0 o.length c0] W (NewR W o) := by
  have HR := Aside0.mk (right_calls A0 c0 o W h0)
  rw [decide_eq_true ho] at HR
  have HO := Aside0.mk ho
  have H0 := Aside0.mk h0
  have HL : Aside0 (o.length ≤ 1000000) := ⟨by have := ho.1; omega⟩
  clear ho h0
  go_enter Try.func16, Try.ntmps16
  go_wp2_with (first
    | (go_at_call 46; refine HR.out.mono ?_; rintro e w1 ⟨rfl, hd⟩; have hs := Since.ofDrawn hd)
    | (go_at_call 47; ((with_reducible refine (cloneI_calls _ A0 c0 o (hs.sl H0.out) HL.out).mono ?_)); rintro e w2 ⟨A2, c2, rfl, hc2, hF2, hb2⟩))
  go_ret2
  have hq := setAt_new HO.out (hs.step hb2).b hc2 (Kd.F_mono hF2 fun k hk => Nat.le_trans hs.b.size hk)
  exact ⟨hq.1, _, A2, c2, w2.heap.size, rfl, hq.2.1, hq.2.2⟩

set_option maxHeartbeats 2000000 in
set_option maxRecDepth 100000 in
theorem new_no (W : World) (A0 : Option Addr) (c0 : Nat) (o : Tp) (h0 : Sl W A0 c0 o) (ho : ¬ Rt o) :
    Calls Try.prog 16 #[.slice A0 o.length c0] W fun e w' => e = .returned (.tuple #[.pointer none, .int .i64 1]) ∧ Below W.heap.size W w' := by
  have HR := Aside0.mk (right_calls A0 c0 o W h0)
  rw [decide_eq_false ho] at HR
  clear ho h0
  go_enter Try.func16, Try.ntmps16
  go_wp2_with (first
    | (go_at_call 46; refine HR.out.mono ?_; rintro e w1 ⟨rfl, hd⟩; have hs := Since.ofDrawn hd))
  go_ret2
  exact ⟨rfl, hs.b⟩

set_option maxHeartbeats 1000000 in
set_option maxRecDepth 100000 in
/-- (*Set).Order. -/
theorem order_calls {ok : Nat → Prop} (W : World) (bs : Nat) {A : Option Addr} {c : Nat} {o : Tp} {rt : Nat} {T : BT} (h : SetAt ok W bs A c o rt T) :
    Calls Try.prog 28 #[.pointer (some ⟨bs, 0, none⟩)] W fun e w' => ∃ A' c', e = .returned (.slice A' o.length c') ∧ Handed1 W w' A' c' o := by
  have h0 := h.c0
  have h1 := h.c1
  have HS := Aside0.mk h.sl
  have HL : Aside0 (o.length ≤ 1000000) := ⟨by have := h.rto.1; omega⟩
  clear h
  go_enter Try.func28, Try.ntmps28
  go_wp2_with (first
    | (go_at_call 48; refine (ok_calls _ bs h0).mono ?_; rintro e w' ⟨rfl, rfl⟩)
    | (go_at_call 47; ((with_reducible refine (cloneIR_calls _ A _ c o HS.out HL.out rfl).mono ?_)); rintro e w2 ⟨A2, c2, rfl, hh⟩))
  go_ret
  exact ⟨A2, c2, rfl, hh⟩

end Go.Proofs.Ytcmllllbmgcnlaa.Tup

namespace Go.Proofs.Ytcmllllbmgcnlaa.Tup
open Go.RowKit Go.Lib Go.Shelf Go.Proofs.Ytcmllllbmgcnlaa.F Go.Proofs.YtcmllllbmgcnlaaW.PrintWords Go.Proofs.YtcmllllbmgcnlaaW.PrintLast Go.Proofs.YtcmllllbmgcnlaaW.PrintMore
set_option linter.unusedVariables false
set_option linter.unusedSimpArgs false

theorem same2_loop (a b : List Tp) (m : Nat) (hab : a.length = b.length) (hm : ∀ t ∈ a, t.length ≤ m) (hm2 : m ≤ 1000000) (hn : a.length ≤ 1000000) (d : Nat) : ∀ j k, j + d = a.length → d + m + 2 ≤ k → vestryref05_Same.l0 k a b (j : Int) = some (decide (a.drop j = b.drop j)) := by
  induction d with
  | zero =>
    intro j k hj hk
    obtain ⟨k, rfl⟩ : ∃ q, k = q + 1 := ⟨k - 1, by omega⟩
    simp only [vestryref05_Same.l0]
    rw [if_neg (by omega), List.drop_of_length_le (by omega), List.drop_of_length_le (by omega)]
    simp
  | succ d ih =>
    intro j k hj hk
    obtain ⟨k, rfl⟩ : ∃ q, k = q + 1 := ⟨k - 1, by omega⟩
    simp only [vestryref05_Same.l0]
    have h1 : j < a.length := by omega
    have h2 : j < b.length := by omega
    have ha : rd_L1 a (j : Int) = a[j] := by simp [rd_L1, h1]
    have hb : rd_L1 b (j : Int) = b[j] := by simp [rd_L1, h2]
    have hl := hm a[j] (List.getElem_mem _)
    rw [if_pos (by omega), if_pos (by omega), if_pos (by omega), ha, hb, same_is k _ _ (by omega) (by omega)]
    have ew : wrap64 ((j : Int) + 1) = ((j + 1 : Nat) : Int) := by
      have := wrap_nat j (by omega)
      omega
    have e : (a.drop j = b.drop j) ↔ (a[j] = b[j] ∧ a.drop (j + 1) = b.drop (j + 1)) := by
      rw [List.drop_eq_getElem_cons h1, List.drop_eq_getElem_cons h2, List.cons.injEq]
    have ed : decide (a.drop j = b.drop j) = decide (a[j] = b[j] ∧ a.drop (j + 1) = b.drop (j + 1)) := decide_eq_decide.2 e
    rw [ed]
    simp only [Option.bind_some]
    by_cases he : a[j] = b[j]
    · rw [decide_eq_true he, if_pos rfl, ew, ih (j + 1) k (by omega) (by omega)]
      simp [he]
    · rw [decide_eq_false he]
      simp [he]
theorem same2_is (a b : List Tp) (m k : Nat) (hm : ∀ t ∈ a, t.length ≤ m) (hm2 : m ≤ 1000000) (hn : a.length ≤ 1000000) (hk : a.length + m + 2 ≤ k) : vestryref05_Same.f k a b = some (decide (a = b)) := by
  unfold vestryref05_Same.f
  by_cases h : a.length = b.length
  · rw [if_pos (by omega)]
    have := same2_loop a b m h hm hm2 hn a.length 0 k (by omega) hk
    simpa using this
  · rw [if_neg (by omega), decide_eq_false (fun e => h (by rw [e]))]
/-- R.Same. -/
theorem same2_calls (A0 : Option Addr) (c0 : Nat) (a : List Tp) (A1 : Option Addr) (c1 : Nat) (b : List Tp) (w : World) (h0 : Kd.C KT w A0 a.length a) (hc0 : a.length ≤ c0) (h1 : Kd.C KT w A1 b.length b) (hc1 : b.length ≤ c1) (m : Nat) (hm : ∀ t ∈ a, t.length ≤ m) (hm2 : m ≤ 1000000) (hn : a.length ≤ 1000000) :
    Calls Try.prog 20 #[.slice A0 a.length c0, .slice A1 b.length c1] w fun e w' => e = .returned (.bool (decide (a = b))) ∧ Drawn0 w w' :=
  vestryref05_Same.calls (a.length + m + 2) A0 c0 a A1 c1 b _ w h0 hc0 h1 hc1 (same2_is a b m _ hm hm2 hn (by omega))

end Go.Proofs.Ytcmllllbmgcnlaa.Tup

namespace Go.Proofs.Ytcmllllbmgcnlaa.Tup
open Go.RowKit Go.Lib Go.Shelf Go.Proofs.Ytcmllllbmgcnlaa.F Go.Proofs.YtcmllllbmgcnlaaW.PrintWords Go.Proofs.YtcmllllbmgcnlaaW.PrintLast Go.Proofs.YtcmllllbmgcnlaaW.PrintMore
set_option linter.unusedVariables false
set_option linter.unusedSimpArgs false

/-- A row of whole numbers in a block. -/
theorem sl_heap {W : World} {g : Nat} {cs : Array Value} {l : List Int} (h : W.heap[g]? = some (.cells cs 3 (0, 0))) (e : cs.toList = l.map (Value.int .i64)) (hn : l.length ≤ 1000000) : Kd.F (Kd.int .i64) W (fun k => k = g) (some ⟨g, 0, none⟩) l.length l := by
  have ho : W.ownsRow 0 3 1 (.slice (some ⟨g, 0, none⟩) l.length l.length) l.length (l.map (Value.int .i64)) :=
    ⟨by simp, .inr ⟨g, l.length, cs, rfl, Nat.zero_le _, h, Nat.le_refl _, by unfold maxLen; omega, by have := congrArg List.length e; simp at this; simp [this], by rw [e]; exact List.take_of_length_le (by simp)⟩⟩
  obtain ⟨A', c', e', hle, hF⟩ := rows_in (d := Kd.int .i64) (ok := fun _ => False) rfl ho (Els.of (by simp) fun i hi hu => by rw [List.getElem_map]; exact fun W' _ => rfl) rfl
  injection e' with e1 e2 e3
  subst e1
  exact Kd.F_mono hF fun k hk => hk.elim False.elim fun hk => by simpa [Value.ownBlock] using hk
theorem sl2_new (W : World) (a b : Int) : Sl (W.alloc (.cells #[.int .i64 a, .int .i64 b] 3)) (some ⟨W.heap.size, 0, none⟩) 2 [a, b] :=
  ⟨Kd.F_now (sl_heap (l := [a, b]) (heap_alloc_new W _) rfl (by simp)), Nat.le_refl _⟩

theorem kept_below {W0 W w' : World} {bs : Nat} (h : Below W0.heap.size W0 W) (hk : Kept1 bs W w') (hb : W0.heap.size ≤ bs) : Below W0.heap.size W0 w' :=
  ⟨hk.g.os.trans h.os, hk.g.tape.trans h.tape, hk.g.output.trans h.output, Nat.le_trans h.size hk.g.size, fun k hk' => (hk.heap (Nat.lt_of_lt_of_le hk' h.size) (by omega)).trans (h.block k hk')⟩

/-- Insert of a pair written out. -/
theorem ins_lit2 {ok : Nat → Prop} (W : World) (bs : Nat) {A : Option Addr} {c : Nat} {o : Tp} {rt : Nat} {T : BT} (h : SetAt ok W bs A c o rt T) (a b : Int) (L : List Tp) (hL : T.io = L) (r : Bool) (n : Nat) (hr : insAns o L [a, b] = (r, n)) (L' : List Tp) (hL' : insTo o L [a, b] = L') :
    Calls Try.prog 18 #[.pointer (some ⟨bs, 0, none⟩), .slice (some ⟨W.heap.size, 0, none⟩) 2 2] (W.alloc (.cells #[.int .i64 a, .int .i64 b] 3)) fun e w' =>
      ∃ rt' T' ok', e = .returned (.tuple #[.bool r, .int .i64 (n : Int)]) ∧ SetAt ok' w' bs A c o rt' T' ∧ T'.io = L' ∧ Kept1 bs W w' := by
  have hs := h.since (Since.alloc (Since.refl W) (.cells #[.int .i64 a, .int .i64 b] 3))
  refine (insert_calls _ bs hs _ 2 [a, b] (sl2_new W a b) (by have := h.rto.1; omega)).mono ?_
  rintro e w' ⟨rt', T', rfl, hS, hio, hk⟩
  rw [hL] at hio ⊢
  rw [hr]
  exact ⟨rt', T', _, rfl, hS, hio.trans hL', (Kept1.below (below_alloc (Below.refl _ _) _)).trans hk⟩

/-- Pairs written out, in a row. -/
theorem pairs_row {X : World} {g : Nat} {cs : Array Value} {ls : List (List Int)} {us : List Value} (h : X.heap[g]? = some (.cells cs 22 (0, 0))) (e : cs.toList = us) (hE : Els (El KT X (fun _ => True)) ls us) (hn : ls.length ≤ 1000000) : Kd.C KT X (some ⟨g, 0, none⟩) ls.length ls := by
  have hl := hE.len
  have ho : X.ownsRow 0 22 1 (.slice (some ⟨g, 0, none⟩) ls.length ls.length) ls.length us :=
    ⟨by omega, .inr ⟨g, ls.length, cs, rfl, Nat.zero_le _, h, Nat.le_refl _, by unfold maxLen; omega, by have := congrArg List.length e; simp at this; omega, by rw [e]; exact List.take_of_length_le (by omega)⟩⟩
  obtain ⟨A', c', e', hle, hF⟩ := rows_in rfl ho hE rfl
  injection e' with e1 e2 e3
  subst e1
  exact Kd.F_now hF
theorem el_pair {X : World} {g : Nat} {a b : Int} (h : X.heap[g]? = some (.cells #[.int .i64 a, .int .i64 b] 3 (0, 0))) : El KT X (fun _ => True) [a, b] (.slice (some ⟨g, 0, none⟩) 2 2) :=
  tup_el (t := [a, b]) (Nat.le_refl _) (Kd.F_mono (sl_heap (l := [a, b]) h rfl (by simp)) fun _ _ => trivial)
abbrev pc (a b : Int) : Obj := .cells #[.int .i64 a, .int .i64 b] 3
abbrev ps (n : Nat) : Value := .slice (some ⟨n, 0, none⟩) 2 2
/-- R.Same against three pairs written out; against two. -/
theorem same_lit3 (w : World) (A : Option Addr) (c : Nat) (L : List Tp) (a1 b1 a2 b2 a3 b3 : Int) (hL : L = [[a1, b1], [a2, b2], [a3, b3]]) (hc : 3 ≤ c) {ok : Nat → Prop} (hF : Kd.F KT w ok A L.length L) :
    Calls Try.prog 20 #[.slice A 3 c, .slice (some ⟨w.heap.size + 1 + 1 + 1, 0, none⟩) 3 3] ((((w.alloc (pc a1 b1)).alloc (pc a2 b2)).alloc (pc a3 b3)).alloc (.cells #[ps w.heap.size, ps (w.heap.size + 1), ps (w.heap.size + 1 + 1)] 22)) fun e w' => e = .returned (.bool true) ∧ Below w.heap.size w w' := by
  subst hL
  have z1 : (w.alloc (pc a1 b1)).heap.size = w.heap.size + 1 := by simp
  have z2 : ((w.alloc (pc a1 b1)).alloc (pc a2 b2)).heap.size = w.heap.size + 1 + 1 := by simp
  have z3 : (((w.alloc (pc a1 b1)).alloc (pc a2 b2)).alloc (pc a3 b3)).heap.size = w.heap.size + 1 + 1 + 1 := by simp
  have ab : ∀ (W : World) (o : Obj), Below W.heap.size W (W.alloc o) := fun W o => below_alloc (Below.refl _ _) o
  obtain ⟨X, hX⟩ : ∃ X, X = (((w.alloc (pc a1 b1)).alloc (pc a2 b2)).alloc (pc a3 b3)).alloc (.cells #[ps w.heap.size, ps (w.heap.size + 1), ps (w.heap.size + 1 + 1)] 22) := ⟨_, rfl⟩
  have hbX : Below w.heap.size w X := by rw [hX]; exact ((((Since.refl w).alloc _).alloc _).alloc _ |>.alloc _).b
  have h1 : X.heap[w.heap.size]? = some (pc a1 b1) := by rw [hX]; exact blk (ab _ _) (blk (ab _ _) (blk (ab _ _) (heap_alloc_new w _)))
  have h2 : X.heap[w.heap.size + 1]? = some (pc a2 b2) := by rw [hX, ← z1]; exact blk (ab _ _) (blk (ab _ _) (heap_alloc_new _ _))
  have h3 : X.heap[w.heap.size + 1 + 1]? = some (pc a3 b3) := by rw [hX, ← z2]; exact blk (ab _ _) (heap_alloc_new _ _)
  have h4 : X.heap[w.heap.size + 1 + 1 + 1]? = some (.cells #[ps w.heap.size, ps (w.heap.size + 1), ps (w.heap.size + 1 + 1)] 22 (0, 0)) := by rw [hX, ← z3]; exact heap_alloc_new _ _
  have hC := pairs_row (ls := [[a1, b1], [a2, b2], [a3, b3]]) h4 rfl (.cons (el_pair h1) (.cons (el_pair h2) (.cons (el_pair h3) .nil))) (by simp)
  rw [← hX]
  refine (same2_calls A c [[a1, b1], [a2, b2], [a3, b3]] _ 3 [[a1, b1], [a2, b2], [a3, b3]] X (Kd.C_below (Kd.F_now hF) hbX) hc hC (Nat.le_refl _) 2 (by simp) (by omega) (by simp)).mono ?_
  rintro e w' ⟨rfl, hd⟩
  exact ⟨by simp, ((Since.mk hbX).trans (Since.ofDrawn hd)).b⟩
theorem same_lit2 (w : World) (A : Option Addr) (c : Nat) (L : List Tp) (a1 b1 a2 b2 : Int) (hL : L = [[a1, b1], [a2, b2]]) (hc : 2 ≤ c) {ok : Nat → Prop} (hF : Kd.F KT w ok A L.length L) :
    Calls Try.prog 20 #[.slice A 2 c, .slice (some ⟨w.heap.size + 1 + 1, 0, none⟩) 2 2] (((w.alloc (pc a1 b1)).alloc (pc a2 b2)).alloc (.cells #[ps w.heap.size, ps (w.heap.size + 1)] 22)) fun e w' => e = .returned (.bool true) ∧ Below w.heap.size w w' := by
  subst hL
  have z1 : (w.alloc (pc a1 b1)).heap.size = w.heap.size + 1 := by simp
  have z2 : ((w.alloc (pc a1 b1)).alloc (pc a2 b2)).heap.size = w.heap.size + 1 + 1 := by simp
  have ab : ∀ (W : World) (o : Obj), Below W.heap.size W (W.alloc o) := fun W o => below_alloc (Below.refl _ _) o
  obtain ⟨X, hX⟩ : ∃ X, X = ((w.alloc (pc a1 b1)).alloc (pc a2 b2)).alloc (.cells #[ps w.heap.size, ps (w.heap.size + 1)] 22) := ⟨_, rfl⟩
  have hbX : Below w.heap.size w X := by rw [hX]; exact (((Since.refl w).alloc _).alloc _).alloc _ |>.b
  have h1 : X.heap[w.heap.size]? = some (pc a1 b1) := by rw [hX]; exact blk (ab _ _) (blk (ab _ _) (heap_alloc_new w _))
  have h2 : X.heap[w.heap.size + 1]? = some (pc a2 b2) := by rw [hX, ← z1]; exact blk (ab _ _) (heap_alloc_new _ _)
  have h4 : X.heap[w.heap.size + 1 + 1]? = some (.cells #[ps w.heap.size, ps (w.heap.size + 1)] 22 (0, 0)) := by rw [hX, ← z2]; exact heap_alloc_new _ _
  have hC := pairs_row (ls := [[a1, b1], [a2, b2]]) h4 rfl (.cons (el_pair h1) (.cons (el_pair h2) .nil)) (by simp)
  rw [← hX]
  refine (same2_calls A c [[a1, b1], [a2, b2]] _ 2 [[a1, b1], [a2, b2]] X (Kd.C_below (Kd.F_now hF) hbX) hc hC (Nat.le_refl _) 2 (by simp) (by omega) (by simp)).mono ?_
  rintro e w' ⟨rfl, hd⟩
  exact ⟨by simp, ((Since.mk hbX).trans (Since.ofDrawn hd)).b⟩

theorem alive_facts : insAns [1, 0] [] [1, 2] = (true, 0) ∧ insTo [1, 0] [] [1, 2] = [[1, 2]] ∧ insAns [1, 0] [[1, 2]] [0, 3] = (true, 0) ∧ insTo [1, 0] [[1, 2]] [0, 3] = [[1, 2], [0, 3]] ∧ insAns [1, 0] [[1, 2], [0, 3]] [5, 2] = (true, 0) ∧ insTo [1, 0] [[1, 2], [0, 3]] [5, 2] = [[1, 2], [5, 2], [0, 3]] ∧ insAns [1, 0] [[1, 2], [5, 2], [0, 3]] [1, 2] = (false, 0) ∧ insTo [1, 0] [[1, 2], [5, 2], [0, 3]] [1, 2] = [[1, 2], [5, 2], [0, 3]] ∧ rangeL [1, 0] 1 [9, 2] [[1, 2], [5, 2], [0, 3]] = [[1, 2], [5, 2]] ∧ Rt [1, 0] := by
  refine ⟨?_, ?_, ?_, ?_, ?_, ?_, ?_, ?_, ?_, ?_⟩ <;> decide +kernel

set_option maxHeartbeats 4000000 in
set_option maxRecDepth 100000 in
theorem alive_calls (W : World) : Calls Try.prog 17 #[] W fun e w' => e = .returned (.bool true) ∧ Below W.heap.size W w' := by
  have HA := Aside0.mk alive_facts
  have hN := new_yes (W.alloc (.cells #[.int .i64 1, .int .i64 0] 3)) _ 2 [1, 0] (sl2_new W 1 0) HA.out.2.2.2.2.2.2.2.2.2
  go_enter Try.func17, Try.ntmps17
  go_wp2_with (first
    | (go_at_call 16; refine hN.mono ?_; clear hN; rintro e w1 ⟨hb1, bs, A, c, rt, rfl, hbs, hS⟩; have HB1 := Aside0.mk hb1; have HBS := Aside0.mk hbs; have hI1 := ins_lit2 w1 bs hS 1 2 [] (by rw [BT.io_mk]; rfl) true 0 HA.out.1 _ HA.out.2.1; clear hb1 hbs hS)
    | (go_at_call 18; refine hI1.mono ?_; clear hI1; rintro e w2 ⟨rt2, T2, ok2, rfl, hS, hio, hk⟩; have HK2 := Aside0.mk hk; have hI2 := ins_lit2 w2 bs hS 0 3 _ hio true 0 HA.out.2.2.1 _ HA.out.2.2.2.1; clear hS hio hk)
    | (go_at_call 18; refine hI2.mono ?_; clear hI2; rintro e w3 ⟨rt3, T3, ok3, rfl, hS, hio, hk⟩; have HK3 := Aside0.mk hk; have hI3 := ins_lit2 w3 bs hS 5 2 _ hio true 0 HA.out.2.2.2.2.1 _ HA.out.2.2.2.2.2.1; clear hS hio hk)
    | (go_at_call 18; refine hI3.mono ?_; clear hI3; rintro e w4 ⟨rt4, T4, ok4, rfl, hS, hio, hk⟩; have HK4 := Aside0.mk hk; have hI4 := ins_lit2 w4 bs hS 1 2 _ hio false 0 HA.out.2.2.2.2.2.2.1 _ HA.out.2.2.2.2.2.2.2.1; clear hS hio hk)
    | (go_at_call 18; refine hI4.mono ?_; clear hI4; rintro e w5 ⟨rt5, T5, ok5, rfl, hS, hio, hk⟩; have HK5 := Aside0.mk hk; have HS5 := Aside0.mk hS; have HIO := Aside0.mk hio; have hL := len_calls w5 bs hS; rw [hio] at hL; have hAll := all_calls w5 (.pointer (some ⟨bs, 0, none⟩)) ⟨_, rfl⟩; clear hS hio hk)
    | (go_at_call 19; refine hL.mono ?_; clear hL; rintro e w6 ⟨rfl, rfl⟩)
    | (go_at_call 22; refine hAll.mono ?_; clear hAll; rintro e w7 ⟨rfl, rfl⟩; have HS7 := Aside0.mk (Since.alloc (Since.refl w5) (.cells #[.pointer (some ⟨bs, 0, none⟩)] 24)); have hLs := listA_calls _ w5.heap.size bs (HS5.out.since HS7.out) ((cell_of_heap (heap_alloc_new w5 (.cells #[.pointer (some ⟨bs, 0, none⟩)] 24)) 0).trans rfl); rw [HIO.out] at hLs)
    | (go_at_call 21; refine hLs.mono ?_; clear hLs; rintro e w8 ⟨A8, c8, rfl, hc8, hF8, hb8⟩; have HS8 := Aside0.mk (HS7.out.step hb8); have hSm := same_lit3 w8 A8 c8 _ 1 2 5 2 0 3 rfl hc8 hF8; clear hc8 hF8 hb8)
    | (go_at_call 20; refine hSm.mono ?_; clear hSm; rintro e w9 ⟨rfl, hb9⟩; have HS9 := Aside0.mk ((HS8.out.step hb9).alloc (.cells #[.int .i64 9, .int .i64 2] 3)); have hRg := rangec_calls (w9.alloc (.cells #[.int .i64 9, .int .i64 2] 3)) (some ⟨bs, 0, none⟩) 1 _ 2 [9, 2] (sl2_new w9 9 2) (by simp); clear hb9)
    | (go_at_call 29; refine hRg.mono ?_; clear hRg; rintro e w10 ⟨Bs, Bk, Bi, Ak, ck, rfl, hBs, hBi, hBk, hck, hkey, hb10⟩; have HS10 := Aside0.mk (HS9.out.step hb10); have hLr := listR_calls w10 Bs Bk Bi bs (HS5.out.since HS10.out) hBs Ak ck [9, 2] hBk hck hkey 1 hBi; rw [HIO.out, HA.out.2.2.2.2.2.2.2.2.1] at hLr; clear hBs hBi hBk hck hkey hb10)
    | (go_at_call 21; refine hLr.mono ?_; clear hLr; rintro e w11 ⟨A11, c11, rfl, hc11, hF11, hb11⟩; have HS11 := Aside0.mk (HS10.out.step hb11); have hSm2 := same_lit2 w11 A11 c11 _ 1 2 5 2 rfl hc11 hF11; clear hc11 hF11 hb11)
    | (go_at_call 20; refine hSm2.mono ?_; clear hSm2; rintro e w12 ⟨rfl, hb12⟩; have HS12 := Aside0.mk (HS11.out.step hb12); clear hb12))
  go_ret
  have a0 := below_alloc (Below.refl W.heap.size W) (.cells #[.int .i64 1, .int .i64 0] 3)
  have hb1 : Below W.heap.size W w1 := below_then a0 a0.size HB1.out
  have hbs : W.heap.size ≤ bs := Nat.le_trans a0.size HBS.out
  have h5 := kept_below (kept_below (kept_below (kept_below hb1 HK2.out hbs) HK3.out hbs) HK4.out hbs) HK5.out hbs
  exact ⟨rfl, below_then h5 h5.size HS12.out.b⟩

end Go.Proofs.Ytcmllllbmgcnlaa.Tup

namespace Go.Proofs.Ytcmllllbmgcnlaa.Tup
open Go.RowKit Go.Lib Go.Shelf Go.Proofs.Ytcmllllbmgcnlaa.F Go.Proofs.YtcmllllbmgcnlaaW.PrintWords Go.Proofs.YtcmllllbmgcnlaaW.PrintLast Go.Proofs.YtcmllllbmgcnlaaW.PrintMore
set_option linter.unusedVariables false
set_option linter.unusedSimpArgs false

def insAll (o : Tp) (L : List Tp) (ts : List Tp) : List Tp := ts.foldl (insTo o) L
theorem insAll_snoc (o : Tp) (L ts : List Tp) (t : Tp) : insAll o L (ts ++ [t]) = insTo o (insAll o L ts) t := by simp [insAll]
/-- A set's list. -/
structure Good (o : Tp) (L : List Tp) : Prop where
  fit : ∀ a ∈ L, Fit o a
  up : Up o L
theorem insTo_len (o : Tp) (L : List Tp) (t : Tp) : (insTo o L t).length ≤ L.length + 1 := by
  unfold insTo
  split
  · rw [insO_len]; omega
  · omega
theorem insTo_good {o : Tp} {L : List Tp} {t : Tp} (hr : Rt o) (h : Good o L) : Good o (insTo o L t) := by
  unfold insTo insAns
  by_cases h1 : t.length ≠ o.length
  · simp [h1]; exact h
  · by_cases h2 : t ∈ L
    · simp [h1, h2]; exact h
    · by_cases h3 : 1024 ≤ L.length
      · simp [h1, h2, h3]; exact h
      · have hf : Fit o t := ⟨by simpa using h1, hr⟩
        simp only [h1, h2, h3, if_true, if_false, ite_true, ite_false, not_false_eq_true]
        refine ⟨fun a ha => ?_, insO_up h.up hf h.fit h2⟩
        rw [insO_mem] at ha
        rcases ha with rfl | ha
        · exact hf
        · exact h.fit a ha
theorem insTo_mem {o : Tp} {L : List Tp} {t : Tp} (hl : L.length < 1024) (a : Tp) : a ∈ insTo o L t ↔ (a ∈ L ∨ (a = t ∧ t.length = o.length)) := by
  unfold insTo insAns
  by_cases h1 : t.length ≠ o.length
  · simp only [h1, ite_true, not_false_eq_true, ne_eq]
    simp only [Bool.false_eq_true, ite_false]
    constructor
    · exact .inl
    · rintro (h | ⟨_, h⟩)
      · exact h
      · exact h.elim
  · have h1' : t.length = o.length := by simpa using h1
    by_cases h2 : t ∈ L
    · simp only [h1', ne_eq, not_true_eq_false, ite_false, h2, ite_true, Bool.false_eq_true, and_true]
      constructor
      · exact .inl
      · rintro (h | rfl)
        · exact h
        · exact h2
    · have h3 : ¬ 1024 ≤ L.length := by omega
      simp only [h1', ne_eq, not_true_eq_false, ite_false, h2, h3, ite_true, and_true]
      rw [insO_mem]
      exact ⟨fun h => h.symm, fun h => h.symm⟩
theorem insAll_facts {o : Tp} (hr : Rt o) (ts : List Tp) (hn : ts.length ≤ 1024) : Good o (insAll o [] ts) ∧ (insAll o [] ts).length ≤ ts.length ∧ ∀ a, a ∈ insAll o [] ts ↔ (a ∈ ts ∧ a.length = o.length) := by
  have : ∀ m (ts : List Tp), ts.length = m → m ≤ 1024 → Good o (insAll o [] ts) ∧ (insAll o [] ts).length ≤ ts.length ∧ ∀ a, a ∈ insAll o [] ts ↔ (a ∈ ts ∧ a.length = o.length) := by
    intro m
    induction m with
    | zero =>
      intro ts h _
      obtain rfl := List.length_eq_zero_iff.1 h
      exact ⟨⟨by simp [insAll], List.Pairwise.nil⟩, by simp [insAll], by simp [insAll]⟩
    | succ m ih =>
      intro ts h hm
      obtain ⟨us, t, rfl⟩ : ∃ us t, ts = us ++ [t] := ⟨ts.dropLast, ts.getLast (by intro e; simp [e] at h), (List.dropLast_concat_getLast _).symm⟩
      have hus : us.length = m := by simpa using h
      obtain ⟨g, hl, hme⟩ := ih us hus (by omega)
      rw [insAll_snoc]
      refine ⟨insTo_good hr g, ?_, fun a => ?_⟩
      · have := insTo_len o (insAll o [] us) t
        simp; omega
      · rw [insTo_mem (by omega), hme]
        simp only [List.mem_append, List.mem_singleton]
        constructor
        · rintro (⟨h1, h2⟩ | ⟨rfl, h2⟩)
          · exact ⟨.inl h1, h2⟩
          · exact ⟨.inr rfl, h2⟩
        · rintro ⟨h1 | rfl, h2⟩
          · exact .inl ⟨h1, h2⟩
          · exact .inr ⟨rfl, h2⟩
  exact this _ ts rfl hn
/-- Rising lists with the same elements are the same. -/
theorem up_unique {o : Tp} {L M : List Tp} (hL : Up o L) (hM : Up o M) (h : ∀ a, a ∈ L ↔ a ∈ M) : L = M := by
  induction L generalizing M with
  | nil => cases M with
    | nil => rfl
    | cons b M => exact absurd ((h b).2 (by simp)) (by simp)
  | cons a L ih => cases M with
    | nil => exact absurd ((h a).1 (by simp)) (by simp)
    | cons b M =>
      unfold Up at hL hM
      rw [List.pairwise_cons] at hL hM
      have hab : a = b := by
        rcases List.mem_cons.1 ((h a).1 (by simp)) with e | ha
        · exact e
        · rcases List.mem_cons.1 ((h b).2 (by simp)) with e | hb
          · exact e.symm
          · exact absurd (hM.1 a ha) (fun hh => (hL.1 b hb).asymm hh)
      subst hab
      congr 1
      refine ih hL.2 hM.2 fun x => ?_
      constructor
      · intro hx
        rcases List.mem_cons.1 ((h x).1 (List.mem_cons_of_mem _ hx)) with e | hx'
        · subst e; exact absurd (hL.1 x hx) (fun hh => hh.irrefl)
        · exact hx'
      · intro hx
        rcases List.mem_cons.1 ((h x).2 (List.mem_cons_of_mem _ hx)) with e | hx'
        · subst e; exact absurd (hM.1 x hx) (fun hh => hh.irrefl)
        · exact hx'
theorem insAll_same {o : Tp} (hr : Rt o) (ts us : List Tp) (hn : ts.length ≤ 1024) (hm : us.length ≤ 1024) (h : ∀ a, a ∈ ts ↔ a ∈ us) : insAll o [] ts = insAll o [] us := by
  obtain ⟨g1, _, m1⟩ := insAll_facts hr ts hn
  obtain ⟨g2, _, m2⟩ := insAll_facts hr us hm
  exact up_unique g1.up g2.up fun a => by rw [m1, m2, h]

/-- Two sets, apart. -/
structure Two (W : World) (b1 b2 : Nat) (A1 : Option Addr) (c1 : Nat) (o1 : Tp) (r1 : Nat) (T1 : BT) (A2 : Option Addr) (c2 : Nat) (o2 : Tp) (r2 : Nat) (T2 : BT) : Prop where
  s1 : SetAt (fun k => k ≠ b1 ∧ k ≠ b2) W b1 A1 c1 o1 r1 T1
  s2 : SetAt (fun k => k ≠ b1 ∧ k ≠ b2) W b2 A2 c2 o2 r2 T2
  ne : b1 ≠ b2

theorem Two.symm {W : World} {b1 b2 : Nat} {A1 : Option Addr} {c1 : Nat} {o1 : Tp} {r1 : Nat} {T1 : BT} {A2 : Option Addr} {c2 : Nat} {o2 : Tp} {r2 : Nat} {T2 : BT} (h : Two W b1 b2 A1 c1 o1 r1 T1 A2 c2 o2 r2 T2) : Two W b2 b1 A2 c2 o2 r2 T2 A1 c1 o1 r1 T1 :=
  ⟨h.s2.mono (fun k hk => ⟨hk.2, hk.1⟩) (fun hk => hk.1 rfl), h.s1.mono (fun k hk => ⟨hk.2, hk.1⟩) (fun hk => hk.2 rfl), fun e => h.ne e.symm⟩
theorem Two.since {W w' : World} {b1 b2 : Nat} {A1 : Option Addr} {c1 : Nat} {o1 : Tp} {r1 : Nat} {T1 : BT} {A2 : Option Addr} {c2 : Nat} {o2 : Tp} {r2 : Nat} {T2 : BT} (h : Two W b1 b2 A1 c1 o1 r1 T1 A2 c2 o2 r2 T2) (hs : Since W w') : Two w' b1 b2 A1 c1 o1 r1 T1 A2 c2 o2 r2 T2 := ⟨h.s1.since hs, h.s2.since hs, h.ne⟩
/-- Insert into one of two. -/
theorem two_ins (W : World) {b1 b2 : Nat} {A1 : Option Addr} {c1 : Nat} {o1 : Tp} {r1 : Nat} {T1 : BT} {A2 : Option Addr} {c2 : Nat} {o2 : Tp} {r2 : Nat} {T2 : BT} (h : Two W b1 b2 A1 c1 o1 r1 T1 A2 c2 o2 r2 T2) (At : Option Addr) (ct : Nat) (t : Tp) (st : Sl W At ct t) :
    Calls Try.prog 18 #[.pointer (some ⟨b1, 0, none⟩), .slice At t.length ct] W fun e w' => ∃ r T, e = .returned (.tuple #[.bool (insAns o1 T1.io t).1, .int .i64 ((insAns o1 T1.io t).2 : Int)]) ∧ Two w' b1 b2 A1 c1 o1 r T A2 c2 o2 r2 T2 ∧ T.io = insTo o1 T1.io t ∧ Kept1 b1 W w' := by
  refine (insert_calls W b1 h.s1 At ct t st (by have := h.s1.rto.1; omega)).mono ?_
  rintro e w' ⟨r, T, rfl, hS, hio, hk⟩
  have l1 := h.s1.lt
  have l2 := h.s2.lt
  refine ⟨r, T, rfl, ⟨hS.mono (fun k hk => ?_) (fun hk => hk.1 rfl), h.s2.step (fun k hk' hlt => hk.heap hlt hk'.1) (hk.heap l2 (fun e => h.ne e.symm)), h.ne⟩, hio, hk⟩
  rcases hk with hk | hk
  · exact hk
  · exact ⟨by omega, by omega⟩
theorem two_ins2 (W : World) {b1 b2 : Nat} {A1 : Option Addr} {c1 : Nat} {o1 : Tp} {r1 : Nat} {T1 : BT} {A2 : Option Addr} {c2 : Nat} {o2 : Tp} {r2 : Nat} {T2 : BT} (h : Two W b1 b2 A1 c1 o1 r1 T1 A2 c2 o2 r2 T2) (At : Option Addr) (ct : Nat) (t : Tp) (st : Sl W At ct t) :
    Calls Try.prog 18 #[.pointer (some ⟨b2, 0, none⟩), .slice At t.length ct] W fun e w' => ∃ r T, e = .returned (.tuple #[.bool (insAns o2 T2.io t).1, .int .i64 ((insAns o2 T2.io t).2 : Int)]) ∧ Two w' b1 b2 A1 c1 o1 r1 T1 A2 c2 o2 r T ∧ T.io = insTo o2 T2.io t ∧ Kept1 b2 W w' := by
  refine (two_ins W h.symm At ct t st).mono ?_
  rintro e w' ⟨r, T, rfl, hT, hio, hk⟩
  exact ⟨r, T, rfl, hT.symm, hio, hk⟩
/-- Two new sets. -/
theorem two_new {W0 W w' : World} {b1 b2 : Nat} {A1 : Option Addr} {c1 : Nat} {o1 : Tp} {r1 : Nat} {T1 : BT} {A2 : Option Addr} {c2 : Nat} {o2 : Tp} {r2 : Nat} {T2 : BT} (h1 : SetAt (fun k => W0.heap.size ≤ k ∧ k < W.heap.size ∧ k ≠ b1) W b1 A1 c1 o1 r1 T1) (hs : Since W w') (hb : W.heap.size ≤ b2) (h2 : SetAt (fun k => W.heap.size ≤ k ∧ k < w'.heap.size ∧ k ≠ b2) w' b2 A2 c2 o2 r2 T2) : Two w' b1 b2 A1 c1 o1 r1 T1 A2 c2 o2 r2 T2 := by
  have l1 := h1.lt
  exact ⟨(h1.since hs).mono (fun k hk => ⟨hk.2.2, by have := hk.2.1; omega⟩) (fun hk => hk.1 rfl), h2.mono (fun k hk => ⟨by have := hk.1; omega, hk.2.2⟩) (fun hk => hk.2 rfl), by omega⟩

end Go.Proofs.Ytcmllllbmgcnlaa.Tup

namespace Go.Proofs.Ytcmllllbmgcnlaa.Tup
open Go.ChangeShapes Go.WideShapes Go.ChangeAt Go.RowKit Go.Joins Go.Proofs.Ytcmllllbmgcnlaa.F Go.Proofs.YtcmllllbmgcnlaaW Go.Proofs.YtcmllllbmgcnlaaW.PrintWords
set_option linter.unusedVariables false
set_option linter.unusedSimpArgs false

section
variable {H : Type} {enc : TypeId × Value → H} {W : World} {base b0 : Nat} {held : Bool}
set_option maxRecDepth 100000 in
theorem sl_of_trod {fuel : Nat} {a : Option Addr} {len cap : Nat} {y : DataW H × List MemPlace} (hf : DataW.trod enc Try.prog W base (fun _ => true) held fuel 22 [.slice a len cap] = some y) :
    ∃ l : List Int, len = l.length ∧ Sl W a cap l ∧ ∀ x ∈ l, (Lit.int .i64 x).wf = true := by
  have row : (a = none ∧ len = 0 ∧ cap = 0 ∧ ([] : List Int) = []) ∨ ∃ zs : List Int, ∃ x, a = some x ∧ len ≤ cap ∧ cap ≤ maxLen ∧ zs.length = cap ∧ (∀ i, i < zs.length → W.cell? (x.add i) = some (.int .i64 (zs.getD i 0))) ∧ ∀ n ∈ zs, (Lit.int .i64 n).wf = true := by
    rcases open_ints Try.underlying22 Try.underlying3 (by kernel_rfl) hf with ⟨hcs, _⟩ | ⟨x, l, c, zs, hcs, _, hl, hm, hz, _, hcell, hwz⟩
    · simp at hcs
      obtain ⟨rfl, rfl, rfl⟩ := hcs
      exact .inl ⟨rfl, rfl, rfl, rfl⟩
    · simp at hcs
      obtain ⟨rfl, rfl, rfl⟩ := hcs
      exact .inr ⟨zs, _, rfl, hl, hm, by simpa using hz, hcell, hwz⟩
  have row2 : ∃ zs : List Int, (a = none ∧ len = 0 ∧ cap = 0 ∧ zs = []) ∨ ∃ x, a = some x ∧ len ≤ cap ∧ cap ≤ maxLen ∧ zs.length = cap ∧ (∀ i, i < zs.length → W.cell? (x.add i) = some (.int .i64 (zs.getD i 0))) ∧ ∀ n ∈ zs, (Lit.int .i64 n).wf = true := by
    rcases row with h | ⟨zs, h⟩
    · exact ⟨[], .inl h⟩
    · exact ⟨zs, .inr h⟩
  obtain ⟨zs, h⟩ := row2
  obtain ⟨l, e, hr, hm, hw, hc⟩ := ReadsInt.ofRowC h
  subst e
  exact ⟨l, rfl, ⟨Kd.C_of_reads (d := (0 : Int)) (h1 := fun _ => rfl) hr, hc⟩, hw⟩
set_option maxRecDepth 100000 in
theorem open_sl {v : Value} {d : DataW H} {p : List MemPlace} (hv : Value.okWide Try.prog W .any b0 22 v) (h : DataW.Trod enc Try.prog W base (fun _ => true) held 22 v d p) :
    ∃ A c l, v = .slice A l.length c ∧ Sl W A c l ∧ ∀ x ∈ l, (Lit.int .i64 x).wf = true := by
  obtain ⟨a, len, cap, rfl⟩ := okWide_slice Try.underlying22 hv
  obtain ⟨fuel, hf⟩ := h
  obtain ⟨l, rfl, hs, hw⟩ := sl_of_trod hf
  exact ⟨a, cap, l, rfl, hs, hw⟩
/-- A slice of tuples that is read. -/
structure Rs (W : World) (A : Option Addr) (c : Nat) (ls : List Tp) : Prop where
  C : Kd.C KT W A ls.length ls
  le : ls.length ≤ c
  wf : ∀ t ∈ ls, ∀ x ∈ t, (Lit.int .i64 x).wf = true
set_option maxRecDepth 100000 in
theorem rows_of_trod {fuel : Nat} {a : Option Addr} {len cap : Nat} {y : DataW H × List MemPlace} (hf : DataW.trod enc Try.prog W base (fun _ => true) held fuel 23 [.slice a len cap] = some y) :
    ∃ ls : List Tp, len = ls.length ∧ Rs W a cap ls := by
  rcases Go.Deep.open_slice1 Try.underlying23 (by kernel_rfl) hf with ⟨hcs, _⟩ | ⟨a', l', c', m, n, V, D, Pl, hcs, _, hl, hm, hmm, _, hx⟩
  · simp at hcs
    obtain ⟨rfl, rfl, rfl⟩ := hcs
    exact ⟨[], rfl, Kd.C_nil KT W, Nat.le_refl _, by simp⟩
  · simp at hcs
    obtain ⟨rfl, rfl, rfl⟩ := hcs
    simp only [if_true] at hmm
    subst hmm
    have each : ∀ r, r < len → ∃ y : List Int, (∃ A c, V r = .slice A y.length c ∧ Sl W A c y) ∧ ∀ x ∈ y, (Lit.int .i64 x).wf = true := by
      intro r hr
      obtain ⟨_, h2⟩ := hx r (by omega)
      obtain ⟨A, l, c, e⟩ := slice_form Try.underlying22 h2
      simp only [List.cons.injEq, and_true] at e
      rw [e] at h2 ⊢
      obtain ⟨y, rfl, hs, hw⟩ := sl_of_trod h2
      exact ⟨y, ⟨A, c, rfl, hs⟩, hw⟩
    obtain ⟨f, hf'⟩ := Go.Deep.choose_lt each
    have hL : ((List.range len).map f).length = len := by simp
    refine ⟨(List.range len).map f, hL.symm, ⟨⟨by rw [hL], by rw [hL]; unfold maxLen at hm; omega, fun _ => ⟨a', rfl, fun j p hj => ?_⟩⟩, by rw [hL]; exact hl, fun t ht => ?_⟩⟩
    · have hjl : j < len := by have := (List.getElem?_eq_some_iff.1 hj).1; simpa using this
      rw [List.getElem?_map, List.getElem?_range hjl] at hj
      obtain rfl : f j = p := by simpa using hj
      obtain ⟨⟨A, c, e, hs⟩, _⟩ := hf' j hjl
      refine ⟨[V j], rfl, ⟨A, c, by rw [e], hs.le, hs.C⟩, fun i u hu => ?_⟩
      cases i with
      | zero =>
        simp at hu
        subst hu
        have := (hx j (by omega)).1
        rw [show j * Kd.sz KT + 0 = j from by show j * 1 + 0 = j; omega]
        exact this
      | succ i => simp at hu
    · obtain ⟨j, hj, rfl⟩ := List.mem_map.1 ht
      exact (hf' j (List.mem_range.1 hj)).2
set_option maxRecDepth 100000 in
theorem open_rows {v : Value} {d : DataW H} {p : List MemPlace} (hv : Value.okWide Try.prog W .any b0 23 v) (h : DataW.Trod enc Try.prog W base (fun _ => true) held 23 v d p) :
    ∃ A c ls, v = .slice A ls.length c ∧ Rs W A c ls := by
  obtain ⟨a, len, cap, rfl⟩ := okWide_slice Try.underlying23 hv
  obtain ⟨fuel, hf⟩ := h
  obtain ⟨ls, rfl, hs⟩ := rows_of_trod hf
  exact ⟨a, cap, ls, rfl, hs⟩
set_option maxRecDepth 100000 in
theorem okWide_array {t e : TypeId} {n : Nat} {r : Reach} {v : Value} (ht : Try.prog.underlying t = some (.array n e)) (h : Value.okWide Try.prog W r b0 t v) : ∃ cs, v = .agg cs ∧ cs.size = Try.prog.cellsOf t := by
  unfold Value.okWide at h
  rw [ht] at h
  obtain ⟨cs, rfl, hs, _⟩ := h
  exact ⟨cs, rfl, hs⟩
set_option maxRecDepth 100000 in
theorem trod_array2 {t e : TypeId} {fuel : Nat} {c0 c1 : Value} {x : DataW H × List MemPlace} (ht : Try.prog.underlying t = some (.array 2 e)) (hce : Try.prog.cellsOf e = 1)
    (h : DataW.trod enc Try.prog W base (fun _ => true) held fuel t [c0, c1] = some x) :
    ∃ y0 y1 n, DataW.trod enc Try.prog W base (fun _ => true) held n e [c0] = some y0 ∧ DataW.trod enc Try.prog W base (fun _ => true) held n e [c1] = some y1 := by
  obtain ⟨xs, m, _, _, _, hl, hf⟩ := DataW.trod_array ht h
  have h0 := hf 0 (by omega)
  have h1 := hf 1 (by omega)
  rw [hce] at h0 h1
  match xs, hl with
  | [y0, y1], _ => exact ⟨y0, y1, m, by simpa using h0, by simpa using h1⟩
set_option maxRecDepth 100000 in
theorem open_both {v : Value} {d : DataW H} {p : List MemPlace} (hv : Value.okWide Try.prog W .any b0 41 v) (h : DataW.Trod enc Try.prog W base (fun _ => true) held 41 v d p) :
    ∃ A1 c1 l1 A2 c2 l2, v = .agg #[.slice A1 l1.length c1, .slice A2 l2.length c2] ∧ Rs W A1 c1 l1 ∧ Rs W A2 c2 l2 := by
  obtain ⟨cs, rfl, hs⟩ := okWide_array Try.underlying41 hv
  obtain ⟨x, y, rfl⟩ := array2 (hs.trans (by kernel_rfl))
  obtain ⟨fuel, hf⟩ := h
  obtain ⟨y0, y1, n, h0, h1⟩ := trod_array2 Try.underlying41 (by kernel_rfl) hf
  obtain ⟨A1, m1, c1, e1⟩ := slice_form Try.underlying23 h0
  obtain ⟨A2, m2, c2, e2⟩ := slice_form Try.underlying23 h1
  simp only [List.cons.injEq, and_true] at e1 e2
  subst e1 e2
  obtain ⟨l1, rfl, s1⟩ := rows_of_trod h0
  obtain ⟨l2, rfl, s2⟩ := rows_of_trod h1
  exact ⟨A1, c1, l1, A2, c2, l2, rfl, s1, s2⟩
theorem weights_all {P : Program} {e : TypeId} {d : DataW H} : ∀ {l : List (DataW H)}, d ∈ l → ∀ x ∈ d.weights P e, x ∈ DataW.weightsAll P e l := by
  intro l
  induction l with
  | nil => intro h; simp at h
  | cons a l ih =>
    intro h x hx
    rw [DataW.weightsAll]
    rcases List.mem_cons.1 h with rfl | h
    · exact List.mem_append.2 (.inl hx)
    · exact List.mem_append.2 (.inr (ih h x hx))
set_option maxRecDepth 100000 in
theorem sl_sized {fuel : Nat} {a : Option Addr} {len cap : Nat} {d : DataW H} {ps : List MemPlace} (hf : DataW.trod enc Try.prog W base (fun _ => true) held fuel 22 [.slice a len cap] = some (d, ps)) (hz : ∀ x ∈ d.weights Try.prog 22, x ≤ reachBytes) : len * 8 ≤ 140737488351232 := by
  have hsz : (DataW.weightsEach Try.prog [22] [d]).all (· ≤ reachBytes) = true := by
    rw [List.all_eq_true]
    intro x hx
    simp [DataW.weightsEach] at hx
    exact decide_eq_true (hz x hx)
  exact PrintWords.sized_ints hsz (j := 0) (t := 22) rfl rfl Try.underlying22 Try.underlying3 (by kernel_rfl) (by kernel_rfl) ⟨fuel, hf⟩
set_option maxRecDepth 100000 in
theorem rows_sized {fuel : Nat} {a : Option Addr} {len cap : Nat} {d : DataW H} {ps : List MemPlace} (hf : DataW.trod enc Try.prog W base (fun _ => true) held fuel 23 [.slice a len cap] = some (d, ps)) (hz : ∀ x ∈ d.weights Try.prog 23, x ≤ reachBytes) {ls : List Tp} (hr : Rs W a cap ls) (hl : len = ls.length) : ∀ t ∈ ls, t.length * 8 ≤ 140737488351232 := by
  intro t ht
  obtain ⟨i, hi, rfl⟩ := List.getElem_of_mem ht
  obtain ⟨ad, A, c, e, hc, sl⟩ := tup_at hr.C i hi
  rcases Go.Deep.open_slice1 Try.underlying23 (by kernel_rfl) hf with ⟨hcs, _⟩ | ⟨a', l', c', m, n, V, D, Pl, hcs, _, hl', hm, hmm, hd, hx⟩
  · simp at hcs
    omega
  · simp at hcs
    obtain ⟨rfl, rfl, rfl⟩ := hcs
    simp only [if_true] at hmm
    subst hmm
    injection e with e
    subst e
    obtain ⟨h1, h2⟩ := hx i (by omega)
    rw [hc] at h1
    injection h1 with h1
    rw [← h1] at h2
    have hd' : d = .slice ((List.range len).map D) ((List.range (m - len)).map fun j => D (len + j)) := by
      injection hd
    refine sl_sized h2 fun x hx => hz x ?_
    rw [hd', DataW.weights, Try.underlying23]
    refine List.mem_cons.2 (.inr (List.mem_append.2 (.inl (weights_all (List.mem_map.2 ⟨i, List.mem_range.2 (by omega), rfl⟩) x hx))))
set_option maxRecDepth 100000 in
theorem open_rowsZ {v : Value} {d : DataW H} {p : List MemPlace} {ts : List TypeId} {ds : List (DataW H)} {j : Nat} (hsz : (DataW.weightsEach Try.prog ts ds).all (· ≤ reachBytes) = true) (ht : ts[j]? = some 23) (hd : ds[j]? = some d) (hv : Value.okWide Try.prog W .any b0 23 v) (h : DataW.Trod enc Try.prog W base (fun _ => true) held 23 v d p) :
    ∃ A c ls, v = .slice A ls.length c ∧ Rs W A c ls ∧ ∀ t ∈ ls, t.length * 8 ≤ 140737488351232 := by
  obtain ⟨a, len, cap, rfl⟩ := okWide_slice Try.underlying23 hv
  obtain ⟨fuel, hf⟩ := h
  obtain ⟨ls, hl, hs⟩ := rows_of_trod hf
  refine ⟨a, cap, ls, by rw [hl], hs, rows_sized hf (fun x hx => ?_) hs hl⟩
  exact of_decide_eq_true ((List.all_eq_true.1 hsz) x (DataW.weights_mem_each ht hd x hx))
end
end Go.Proofs.Ytcmllllbmgcnlaa.Tup
