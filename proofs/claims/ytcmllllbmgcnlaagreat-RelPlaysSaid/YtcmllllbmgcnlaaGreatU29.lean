/- Own texts, joined and cut to what the claim stands on: RlSeqT, RlNoted, RlAll. -/
import Derived.Sort.LoopGhostIn
import Derived.Test.YtcmllllbmgcnlaaGreatU28
import Derived.Test.YtcmllllbmgcnlaaGreatU17
section
namespace Go.Proofs.YtcmllllbmgcnlaaGreat.Rl
open Go.RowKit Go.Lib Go.Proofs.YtcmllllbmgcnlaaGreat.G Go.Proofs.YtcmllllbmgcnlaaGreat.Tup Go.Proofs.YtcmllllbmgcnlaaGreatW.PrintWords Go.Proofs.YtcmllllbmgcnlaaGreatW.PrintLast Go.Proofs.YtcmllllbmgcnlaaGreatW.PrintMore
set_option linter.unusedVariables false
set_option linter.unusedSimpArgs false
def RoundsT (F : Fence) (P : Program) (l : Nat) (J : List Tp → World → Prop) (fp : Nat → Prop) (xs : List Tp) : Prop :=
 ∀ m pre x A c W0 W1, J pre W0 → pre ++ [x] <+: xs → Handed1 W0 W1 A c x → YieldAt F m P l #[.slice A x.length c] W1 fun e W' => e = .returned (.bool true) ∧ J (pre ++ [x]) W' ∧ KpF fp W1 W'
def SeqT (F : Fence) (P : Program) (gf : Nat) (lb : Array Value) (fp : Nat → Prop) (xs : List Tp) (w : World) : Prop :=
 ∀ (l : Nat) (J : Nat → List Tp → World → Prop) (W : World), Below w.heap.size w W → (∀ N, W.heap.size ≤ N → OwnFrom W.heap.size (J N)) → (∀ N, W.heap.size ≤ N → RoundsT F P l (J N) (Priv fp W.heap.size N) xs) → (∀ W', Below W.heap.size W W' → J W'.heap.size [] W') →
  ∀ n, CallsIn F n P gf (#[.func (.yield l) #[] #[]] ++ lb) W fun e W' => (∃ v, e = .returned v) ∧ ∃ N, W.heap.size ≤ N ∧ J N xs W'
theorem own_abides {β : Type} {B : Nat} {J : β → World → Prop} (h : OwnFrom B J) : AbidesFrom B J := fun s A C row hs hg hr => h s A C row hs hg (fun r e => by obtain ⟨hB, o, ho, hw⟩ := hr r e; exact ⟨hB, o, ho, Obj.not_cells_of_walk hw⟩)
theorem yieldAt_mono {F : Fence} {m : Nat} {P : Program} {l : Nat} {args : Array Value} {W : World} {R R' : Ending → World → Prop} (h : YieldAt F m P l args W R) (hr : ∀ e w, R e w → R' e w) : YieldAt F m P l args W R' := h.mono hr
theorem seqR_T {F : Fence} {P : Program} {gf : Nat} {lb : Array Value} {fp : Nat → Prop} {xs : List Tp} {w : World} (h : SeqR F P gf lb fp xs w) : SeqT F P gf lb fp xs w :=
 fun l J W hW hJ hR h0 n => (h l J (fun _ _ _ => False) W hW (fun N hN => own_abides (hJ N hN)) (fun _ _ _ _ _ _ hs _ _ => hs) (fun N hN m pre x A c W0 W1 hj hp hh => yieldAt_mono (hR N hN m pre x A c W0 W1 hj hp hh) fun e w' hq => .inl hq) h0 n).mono
  fun e W' hq => ⟨hq.1, hq.2.elim fun N hN => ⟨N, hN.1, hN.2.elim id fun hx => hx.elim fun pre hp => hp.2.elim⟩⟩
def PostT (fp : Nat → Prop) (I : List Tp → World → Prop) (s : List Tp) (W1 : World) : Exit → Act → World → Prop := fun e a W3 => e = .normal ∧ KpF fp W1 W3 ∧ I s W3
theorem rounds_ofT {F : Fence} {n : Nat} (hd : F.depth = none) {P : Program} {B l : Nat} (hBl : B ≤ l) {fn : FuncId} {tm : Array Value} {ps : Array Tmp} {assign body : Code} {d : Nat} (hfn : F.fn fn) {fp : Nat → Prop} {xs : List Tp} (hps : ps.size = 1) (I : List Tp → World → Prop) (hI : OwnFrom B I) (Dl : List Nat) (hD : ∀ D ∈ Dl, B ≤ D ∧ D ≠ l) (hfl : fp l) (hfD : ∀ D ∈ Dl, fp D) (a₁ : Tp → Option Addr → Nat → Act)
  (hassign : ∀ x A c W (K : Act → World → Prop), K (a₁ x A c) W → assign.wpIn (F.inRound l) n P (Exit.then K (fun _ _ _ => False)) { tmps := (ps.zip #[Value.slice A x.length c]).foldl (fun t (p, v) => t.setIfInBounds p v) tm, defers := [] } W)
  (hbody : ∀ pre x A c W0 W1, (∃ r, W1.heap[l]? = some (.loop r)) → Marks Dl W1 → I pre W0 → pre ++ [x] <+: xs → Handed1 W0 W1 A c x → I pre W1 → body.wpIn (F.inRound l) n P (PostT fp I (pre ++ [x]) W1) (a₁ x A c) W1) :
  RoundsT F P l (fun pre W => I pre W ∧ W.heap[l]? = some (.loop (recOf fn tm ps assign body d .ready none)) ∧ Marks Dl W) (fun k => fp k ∧ k ≠ l) xs := by
 rintro m pre x A c W0 W1 ⟨hi, hl, hk⟩ hpre ⟨hb, ho⟩
 have hlt0 := (Array.getElem?_eq_some_iff.1 hl).1
 have hl1 : W1.heap[l]? = some (.loop (recOf fn tm ps assign body d .ready none)) := (hb.block l hlt0).trans hl
 have hlt1 := (Array.getElem?_eq_some_iff.1 hl1).1
 have hk1 : Marks Dl W1 := fun D hD' => (hb.block D (Array.getElem?_eq_some_iff.1 (hk D hD')).1).trans (hk D hD')
 have hi1 : I pre W1 := hI pre W0 W1 none hi ⟨hb.os, hb.tape, hb.output, hb.size, fun k hk _ => hb.block k hk⟩ (fun r e => by cases e)
 refine yieldAny hd m ⟨fn, _, assign, body, run_yield hl1 (by simp [recOf, hps]), roundIn_of_wpIn hfn (hassign x A c W1 _ ⟨_, run_beginRound hl1 rfl, ?_⟩)⟩
 obtain ⟨ob, hob⟩ : ∃ ob, ob = Obj.loop { recOf fn tm ps assign body d .ready none with state := .busy } := ⟨_, rfl⟩
 rw [← hob]
 have hbb : Below (W0.putObj l ob).heap.size (W0.putObj l ob) (W1.putObj l ob) := ⟨hb.os, hb.tape, hb.output, by simpa using hb.size, fun k hk => by
  by_cases e : k = l
  ·subst e; rw [World.putObj_heap_same hlt1, World.putObj_heap_same hlt0]
  ·rw [World.putObj_heap_other e, World.putObj_heap_other e]; exact hb.block k (by simpa using hk)⟩
 have hoo : (W1.putObj l ob).ownsRow (W0.putObj l ob).heap.size 3 1 (.slice A x.length c) x.length (x.map (Value.int .i64)) := by
  have := own_move ho (w1 := W1.putObj l ob) (fun k hk => World.putObj_heap_other (fun e => by have := own_ge ho k hk.symm; omega))
  simpa using this
 have hl2 : (W1.putObj l ob).heap[l]? = some ob := World.putObj_heap_same hlt1
 have hk2 : Marks Dl (W1.putObj l ob) := fun D hD' => (World.putObj_heap_other (hD D hD').2).trans (hk1 D hD')
 refine wpIn_mono (hbody pre x A c (W0.putObj l ob) (W1.putObj l ob) ⟨_, hl2.trans (by rw [hob])⟩ hk2 (hI.putObj _ hi hBl hl rfl) hpre ⟨hbb, hoo⟩ (hI.putObj _ hi1 hBl hl1 rfl)) ?_
 rintro e a3 W3 ⟨rfl, hkp3, hi3⟩
 have hsz1 : (W1.putObj l ob).heap.size = W1.heap.size := by simp
 have hl3 : W3.heap[l]? = some ob := (hkp3.same l hfl (by rw [hsz1]; exact hlt1)).trans hl2
 have hlt3 := (Array.getElem?_eq_some_iff.1 hl3).1
 refine ⟨_, _, run_endRound none (hl3.trans (by rw [hob])), rfl, ⟨hI.putObj _ hi3 hBl hl3 (by rw [hob]; rfl), World.putObj_heap_same hlt3, fun D hD' => (World.putObj_heap_other (hD D hD').2).trans ((hkp3.same D (hfD D hD') (Array.getElem?_eq_some_iff.1 (hk2 D hD')).1).trans (hk2 D hD'))⟩, ?_⟩
 exact ⟨by have := hkp3.size; simp at *; omega, fun k hk hlt => (World.putObj_heap_other hk.2).trans ((hkp3.same k hk.1 (by rw [hsz1]; exact hlt)).trans (World.putObj_heap_other hk.2))⟩
theorem range_outerT {F : Fence} {n : Nat} {P : Program} {g : Operand} {ps : Array Tmp} {assign body : Code} {Q : Exit → Act → World → Prop} {a : Act} {w : World} (hd : F.depth = none) (hro : F.round = none)
  {gf : Nat} {lb : Array Value} (hg : a.eval g = .func (.func gf) #[] lb) (hFg : F.fn gf) (eg : ∀ args w, (callFunc gf args).run P w = .ok (.enter gf args) w)
  {fp : Nat → Prop} (hfp : ∀ k, fp k → k < w.heap.size) {xs : List Tp} (hseq : SeqT F P gf lb fp xs w) (hps : ps.size = 1)
  (I : Nat → List Tp → World → Prop) (hI : ∀ N, w.heap.size + 2 ≤ N → OwnFrom w.heap.size (I N)) (h0 : ∀ W', Below w.heap.size w W' → w.heap.size + 2 ≤ W'.heap.size → I W'.heap.size [] W') (a₁ : Tp → Option Addr → Nat → Act)
  (hassign : ∀ l x A c W (K : Act → World → Prop), K (a₁ x A c) W → assign.wpIn (F.inRound l) n P (Exit.then K (fun _ _ _ => False)) { tmps := (ps.zip #[Value.slice A x.length c]).foldl (fun t (p, v) => t.setIfInBounds p v) a.tmps, defers := [] } W)
  (hbody : ∀ N l pre x A c W0 W1, w.heap.size + 2 ≤ N → l = w.heap.size + 1 → (∃ r, W1.heap[l]? = some (.loop r)) → W1.heap[w.heap.size]? = some (.deferred (some [])) → I N pre W0 → pre ++ [x] <+: xs → Handed1 W0 W1 A c x → I N pre W1 → body.wpIn (F.inRound l) n P (PostT (Priv fp w.heap.size N) (I N) (pre ++ [x]) W1) (a₁ x A c) W1)
  (hdone : ∀ (N D : Nat) (W : World), w.heap.size + 2 ≤ N → w.heap.size ≤ D → I N xs W → W.heap[D]? = some (.deferred (some [])) → Q .normal { a with defers := { target := .collected D, args := #[] } :: a.defers } W) :
  (Code.rangeFunc g ps assign body).wpIn F n P Q a w := by
 refine wpIn_rangeFunc ?_
 intro fn hfn
 rw [hro]
 obtain ⟨W1, hW1⟩ : ∃ W1, (w.alloc (.deferred (some []))).alloc (.loop (recOf fn a.tmps ps assign body w.heap.size .ready none)) = W1 := ⟨_, rfl⟩
 have hL1 : W1.heap[w.heap.size + 1]? = some (.loop (recOf fn a.tmps ps assign body w.heap.size .ready none)) := by
  rw [← hW1]; have := World.alloc_heap_new (w.alloc (.deferred (some []))) (.loop (recOf fn a.tmps ps assign body w.heap.size .ready none)); rwa [World.size_alloc] at this
 have hK1 : W1.heap[w.heap.size]? = some (.deferred (some [])) := by
  rw [← hW1]; exact (Below.heap_alloc _ _ _ (by simp)).trans (World.alloc_heap_new w _)
 have hb1 : Below w.heap.size w W1 := by rw [← hW1]; exact below_alloc (below_alloc (Below.refl _ _) _) _
 have hw1 : W1.heap.size = w.heap.size + 2 := by rw [← hW1]; simp
 refine ⟨w.heap.size + 1, [{ target := .collected w.heap.size, args := #[] }], W1, { target := .fn (.func gf) lb, args := #[.func (.yield (w.heap.size + 1)) #[] #[]] }, W1, gf,
  #[.func (.yield (w.heap.size + 1)) #[] #[]] ++ lb, W1, ?_, ?_, ?_, ?_, (fun h => by rw [hd] at h; cases h), ?_⟩
 ·rw [← hW1]; exact run_enterLoop_outer _ _ _ _ _
 ·simp only [resolve, hg]
  simp [go_sem]
 ·intro f' hf'; simp [Target.leads] at hf'; subst hf'; exact hFg
 ·simp [invoke, go_sem, eg]
 ·have hR : ∀ N, W1.heap.size ≤ N → RoundsT F P (w.heap.size + 1) (fun pre W => I N pre W ∧ W.heap[w.heap.size + 1]? = some (.loop (recOf fn a.tmps ps assign body w.heap.size .ready none)) ∧ Marks [w.heap.size] W) (Priv fp W1.heap.size N) xs := fun N hN => by
   have hr := rounds_ofT (n := n) (P := P) (B := w.heap.size) (l := w.heap.size + 1) (d := w.heap.size) (tm := a.tmps) (ps := ps) (assign := assign) (body := body) hd (by omega) hfn (fp := Priv fp w.heap.size N) (xs := xs) hps (I N) (hI N (by omega)) [w.heap.size] (fun D hD => by simp at hD; subst hD; omega) (.inr ⟨by omega, by omega⟩) (fun D hD => by simp at hD; subst hD; exact .inr ⟨by omega, by omega⟩) a₁ (hassign _) (fun pre x A c W0 W1 hl hk => hbody N _ pre x A c W0 W1 (by omega) rfl hl (hk _ (by simp)))
   intro m pre x A c W0 W1' hj hp hh
   exact yieldAt_mono (hr m pre x A c W0 W1' hj hp hh) fun e w' hq => ⟨hq.1, hq.2.1, hq.2.2.mono fun k hk => hk.elim (fun h => ⟨.inl h, by have := hfp k h; omega⟩) (fun h => ⟨.inr ⟨by omega, h.2⟩, by omega⟩)⟩
  have keep : ∀ {A B : World} {row : Option Nat} (k : Nat) (o : Obj), A.grownBy B row → (∀ r, row = some r → W1.heap.size ≤ r ∧ ∃ o : Obj, A.heap[r]? = some o ∧ o.isCells = false) → A.heap[k]? = some o → k < W1.heap.size → B.heap[k]? = some o := fun k o hg hr hk hlt =>
   (hg.block k (Array.getElem?_eq_some_iff.1 hk).1 (fun e => by have := (hr k e.symm).1; omega)).trans hk
  refine (hseq (w.heap.size + 1) (fun N pre W => I N pre W ∧ W.heap[w.heap.size + 1]? = some (.loop (recOf fn a.tmps ps assign body w.heap.size .ready none)) ∧ Marks [w.heap.size] W) W1 hb1
   (fun N hN s A B row hs hg' hr => ⟨hI N (by omega) s A B row hs.1 hg' (fun r e => ⟨by have := (hr r e).1; omega, (hr r e).2⟩), keep _ _ hg' hr hs.2.1 (by omega), fun D hD => keep _ _ hg' hr (hs.2.2 D hD) (by simp at hD; omega)⟩) hR
   (fun W' hW' => ⟨h0 W' (below_then hb1 hb1.size hW') (by have := hW'.size; omega), blk hW' hL1, fun D hD => by simp at hD; subst hD; exact blk hW' hK1⟩) (n - 1)).mono ?_
  rintro e W2 ⟨⟨v, rfl⟩, N, hN, hi, hl, hk⟩
  exact ⟨none, _, run_endLoop hl (by simp [recOf]), hdone N _ _ (by omega) (Nat.le_refl _) ((hI N (by omega)).putObj _ hi (by omega) hl rfl) ((World.putObj_heap_other (by omega)).trans (hk _ (by simp)))⟩
theorem range_outerO {F : Fence} {n : Nat} {P : Program} {g : Operand} {ps : Array Tmp} {assign body : Code} {Q : Exit → Act → World → Prop} {a : Act} {w : World} (hd : F.depth = none) (hro : F.round = none)
  {gf : Nat} {lb : Array Value} (hg : a.eval g = .func (.func gf) #[] lb) (hFg : F.fn gf) (eg : ∀ args w, (callFunc gf args).run P w = .ok (.enter gf args) w)
  {fp : Nat → Prop} (hfp : ∀ k, fp k → k < w.heap.size) {xs : List Tp} (hseq : SeqT F P gf lb fp xs w) (hps : ps.size = 1)
  (I : Nat → List Tp → World → Prop) (hI : ∀ N, w.heap.size + 2 ≤ N → OwnFrom w.heap.size (I N)) (h0 : ∀ W', Below w.heap.size w W' → w.heap.size + 2 ≤ W'.heap.size → I W'.heap.size [] W') (a₁ : Tp → Option Addr → Nat → Act)
  (hassign : ∀ l x A c W (K : Act → World → Prop), K (a₁ x A c) W → assign.wpIn (F.inRound l) n P (Exit.then K (fun _ _ _ => False)) { tmps := (ps.zip #[Value.slice A x.length c]).foldl (fun t (p, v) => t.setIfInBounds p v) a.tmps, defers := [] } W)
  (hbody : ∀ N l pre x A c W0 W1, w.heap.size + 2 ≤ N → w.heap.size ≤ l → (∃ r, W1.heap[l]? = some (.loop r)) → I N pre W0 → pre ++ [x] <+: xs → Handed1 W0 W1 A c x → I N pre W1 → body.wpIn (F.inRound l) n P (ownPostG w.heap.size (KpF (Priv fp (w.heap.size + 2) N)) (I N) (fun _ _ _ => False) (pre ++ [x]) W1) (a₁ x A c) W1)
  (hdone : ∀ (N D : Nat) (W : World), w.heap.size + 2 ≤ N → w.heap.size ≤ D → I N xs W → W.heap[D]? = some (.deferred (some [])) → Q .normal { a with defers := { target := .collected D, args := #[] } :: a.defers } W) :
  (Code.rangeFunc g ps assign body).wpIn F n P Q a w := by
 refine range_outerT hd hro hg hFg eg hfp hseq hps I hI h0 a₁ hassign (fun N l pre x A c W0 W1 hN hl hr hD hi hp hh hi1 => wpIn_mono (hbody N l pre x A c W0 W1 hN (by omega) hr hi hp hh hi1) ?_) hdone
 intro e a3 W3 hq
 obtain ⟨r, hr⟩ := hr
 cases e with
 | normal =>
  obtain ⟨h1, h2, h3⟩ := hq
  refine ⟨rfl, ⟨h2.size, fun k hk hlt => ?_⟩, h3⟩
  by_cases e1 : k = w.heap.size
  ·subst e1; exact (h1.same _ _ (Nat.le_refl _) hD rfl).trans hD.symm
  ·by_cases e2 : k = w.heap.size + 1
   ·subst e2; rw [← hl]; exact (h1.same l _ (by omega) hr rfl).trans hr.symm
   ·exact h2.same k (hk.elim .inl fun h => .inr ⟨by omega, h.2⟩) hlt
 | ret => exact hq.2.elim
 | exit id => exact hq.2.elim
 | goto t => exact hq.2.elim
 | panic ch => exact hq.elim
 | outgrown => exact hq.elim
end Go.Proofs.YtcmllllbmgcnlaaGreat.Rl
end
section
namespace Go.Proofs.YtcmllllbmgcnlaaGreat.Rl
open Go.RowKit Go.Lib Go.Shelf Go.Proofs.YtcmllllbmgcnlaaGreat.G Go.Proofs.YtcmllllbmgcnlaaGreat.Tup Go.Proofs.YtcmllllbmgcnlaaGreatW.PrintWords Go.Proofs.YtcmllllbmgcnlaaGreatW.PrintLast Go.Proofs.YtcmllllbmgcnlaaGreatW.PrintMore
set_option linter.unusedVariables false
set_option linter.unusedSimpArgs false
attribute [local go_sem] Oper.semAt_some
theorem step_append_at {P : Program} {ops : Array Oper} {o : Oper} {a : Act} {w : World} {K : Act → World → Prop} {Q : Exit → Act → World → Prop} {E : Prop} (hgd : o.guard = none) (s x : Operand) (t : TypeId)
  (ho : o.op = .call { callee := .builtin .append, args := #[s, x], argTypes := #[t, t] })
  (base : Nat) (e : TypeId) (i : TypeInfo) (z : Value) (size bytes : Nat) (ht : P.underlying t = some (.slice e)) (hi : P.info? e = some i) (hz : i.zero = some z)
  (hsize : i.size = size) (hby : i.bytes = bytes) (hzs : z.cells.size = size) (hsz : 0 < size)
  (v : Value) (n : Nat) (xs : List Value) (hs : a.eval s = v) (hown : w.ownsRow base e size v n xs)
  (ad : Addr) (m c : Nat) (news : List Value) (hx : a.eval x = .slice (some ad) m c) (hl : news.length = m * size) (hnews : ∀ j u, news[j]? = some u → w.cell? (ad.add j) = some u) (h1 : ∀ u ∈ news, u.oneCell' = true)
  (h63 : n + m ≤ maxLen) (hbytes : (n + m) * bytes ≤ 140737488355328) (hbase : base ≤ w.heap.size)
  (h : ∀ v' w', w'.ownsRow base e size v' (n + m) (xs ++ news) → w.grownBy w' v.ownBlock → (v'.ownBlock = v.ownBlock ∨ v'.ownBlock = some w.heap.size) → K (a.put o.dst v') w') :
  if Region.wanted o (yielded ops a.tmps) = true then Oper.wp P o a w K Q else E := by
 have hw : Region.wanted o (yielded ops a.tmps) = true := by simp [Region.wanted, hgd]
 rw [if_pos hw]
 obtain ⟨v', w', hr, h2, h3, h4, h5⟩ := run_append_own_at (P := P) w base t o.type e i z size bytes ht hi hz hsize hby hzs hsz v n xs hown ad m c news hl hnews h1 h63 hbytes hbase
 unfold Oper.wp execOp
 simp only [ho, resolve, invoke, builtin, Sem.run_bind, Sem.run_pure, Result.andThen_ok, List.map_toArray, List.map_cons, List.map_nil, hs, hx, hr]
 exact h v' w' h2 h3 h5
theorem KeptS.setB {S : Nat → Prop} (W : World) (B : Nat) (v : Value) (h : S B) : KeptS S W (W.setCell ⟨B, 0, none⟩ v) := ⟨rfl, rfl, rfl, by simp, fun k _ hn => Below.heap_setCell _ _ _ _ (fun e : k = B => hn (e ▸ h))⟩
theorem look_plain {W : World} {m wd : Nat} {R : List Row} (h : MapAt W m wd R) (hwd : wd ≤ 8) (t : List Int) (ht : t.length = wd) {n1 n2 : Int} (hn : lookF R t = some (n1, n2)) :
  (Instr.lookup 72 (.map (some m)) (keyV t) false).run Tryz.prog W = .ok (.complex .f64 (nf n1) (nf n2)) W := (look_run W h hwd t ht false).trans (by rw [hn]; rfl)
theorem seqR_later {F : Fence} {P : Program} {gf : Nat} {lb : Array Value} {fp : Nat → Prop} {xs : List Tp} {w w2 : World} (h : SeqT F P gf lb fp xs w) (hb : Below w.heap.size w w2) : SeqT F P gf lb fp xs w2 := fun l J W hW => h l J W (below_then hb hb.size hW)
theorem run_store_complex' {P : Program} {w : World} {a : Addr} {m : Mode} (k : FloatKind) (x y : Nat) : (store a (.complex k x y) m).run P w = stored P w a (.complex k x y) m := run_store P w a _ m rfl
attribute [local go_sem] run_store_complex'
theorem Elt.ne.symm {e f : Elt} (h : e.ne f) : f.ne e := fun k h1 h2 => h k h2 h1
theorem flat_at (fs : List Elt) (k : Nat) (hk : k < fs.length) : (fs.flatMap Elt.enc)[k * 2]? = some (fs[k]).v ∧ (fs.flatMap Elt.enc)[k * 2 + 1]? = some (noteV (fs[k]).n) := by
 have h2 : ∀ x : Elt, x.enc.length = 2 := fun _ => rfl
 rw [flat_get Elt.enc h2, flat_get Elt.enc h2, show k * 2 / 2 = k from by omega, show (k * 2 + 1) / 2 = k from by omega, show k * 2 % 2 = 0 from by omega, show (k * 2 + 1) % 2 = 1 from by omega, List.getElem?_eq_getElem hk]
 exact ⟨rfl, rfl⟩
structure YieldI (a N : Nat) (A : Option Addr) (D Nc xn c : Nat) (J : List Row → World → Prop) (fs : List Elt) (base k : Nat) (wr : World) : Prop where
 j : J ((fs.map Elt.row).take k) wr
 own : wr.ownsRow Nc 139 2 (.slice A xn c) xn (fs.flatMap Elt.enc)
 els : ∀ j (h : j < fs.length), k ≤ j → (fs[j]).At wr base
 d : wr.heap[D]? = some (.deferred (some []))
structure YieldN (a N : Nat) (A : Option Addr) (D Nc xn : Nat) (fs : List Elt) (base : Nat) : Prop where
 len : fs.length = xn
 ab : a ≤ base
 bl : ∀ f ∈ fs, ∀ k, f.v.ownBlock = some k → base ≤ k ∧ k < N
 ne : fs.Pairwise Elt.ne
 g1 : ∀ ad, A = some ad → a ≤ ad.block ∧ ad.block < N
 d1 : a ≤ D
 d2 : D < N
theorem YieldI.alloc {a N D Nc xn c base k : Nat} {A : Option Addr} {J : List Row → World → Prop} {fs : List Elt} {wr : World} (h : YieldI a N A D Nc xn c J fs base k wr) (hJ : OwnFrom a J) (o : Obj) : YieldI a N A D Nc xn c J fs base k (wr.alloc o) :=
 ⟨hJ.alloc o h.j, h.own.alloc o, fun j hj hk => own_move (h.els j hj hk) fun i hi => Below.heap_alloc _ _ _ (Tup.own_lt (h.els j hj hk) i hi.symm), (Below.heap_alloc _ _ _ (Array.getElem?_eq_some_iff.1 h.d).1).trans h.d⟩
theorem YieldI.more {a N D Nc xn c base k : Nat} {A : Option Addr} {J : List Row → World → Prop} {fs : List Elt} {W1 W2 : World} (h : YieldI a N A D Nc xn c J fs base k W1) (m : YieldN a N A D Nc xn fs base) (hk : k < fs.length) (hj : J ((fs.map Elt.row).take k ++ [(fs[k]).row]) W2) (hp : KpF (PrivX a N (fs[k]).A) W1 W2) : YieldI a N A D Nc xn c J fs base (k + 1) W2 := by
 have hk' : (fs.map Elt.row).take k ++ [(fs[k]).row] = (fs.map Elt.row).take (k + 1) := by
  rw [List.take_succ_eq_append_getElem (by simpa using hk)]; simp
 have hek := h.els k hk (Nat.le_refl _)
 have hne : ∀ b, (∃ o : Obj, W1.heap[b]? = some o ∧ ∀ cs fr, o ≠ .cells cs 3 fr) → ∀ ad, (fs[k]).A = some ad → b ≠ ad.block := fun b ⟨o, ho, h3⟩ ad e hb => by
  obtain ⟨cells, hc⟩ := own_typed hek ad.block (by unfold Elt.v; rw [e]; rfl)
  rw [← hb, ho] at hc
  injection hc with hc
  exact h3 _ _ hc
 refine ⟨by rw [← hk']; exact hj, own_move h.own fun i hi => ?_, fun j hjl hkj => own_move (h.els j hjl (by omega)) fun i hi => ?_, ?_⟩
 ·obtain ⟨ad, rfl, rfl⟩ : ∃ ad, A = some ad ∧ i = ad.block := by
   cases A with
   | none => simp [Value.ownBlock] at hi
   | some ad => exact ⟨ad, rfl, (by simpa [Value.ownBlock] using hi.symm)⟩
  obtain ⟨cells, hc⟩ := own_typed h.own _ hi
  exact hp.same _ ⟨(m.g1 ad rfl).1, (m.g1 ad rfl).2, hne _ ⟨_, hc, fun cs fr e => by injection e with _ e2 _; exact absurd e2 (by decide)⟩⟩ (Array.getElem?_eq_some_iff.1 hc).1
 ·have hb := m.bl _ (List.getElem_mem hjl) i hi
  have hab := m.ab
  refine hp.same i ⟨by omega, hb.2, fun ad e hi' => ?_⟩ (Tup.own_lt (h.els j hjl (by omega)) i hi.symm)
  have hkj' : k < j := by omega
  have := (List.pairwise_iff_getElem.1 m.ne) k j hk hjl hkj' ad.block (by unfold Elt.v; rw [e]; rfl)
  exact this (by rw [hi, hi'])
 ·exact (hp.same D ⟨m.d1, m.d2, hne D ⟨_, h.d, fun cs fr e => by cases e⟩⟩ (Array.getElem?_eq_some_iff.1 h.d).1).trans h.d
set_option maxRecDepth 100000 in
set_option maxHeartbeats 16000000 in
theorem noted_in (n : Nat) {ok : Nat → Prop} {w : World} {br wd : Nat} {os : List Tp} {R : List Row} {m : Nat} {bss : List Nat} (h : RelAt ok w br wd os R m bss) (gf : Nat) (lb : Array Value) (fp : Nat → Prop) (hfp : ∀ k, fp k → k < w.heap.size) (xs : List Tp) (hxs : ∀ t ∈ xs, t ∈ keys R) (hxd : xs.Nodup) (hxn : xs.length ≤ 1024) (hseq : SeqT Fence.wide Tryz.prog gf lb fp xs w) (eg : ∀ args w, (callFunc gf args).run Tryz.prog w = .ok (.enter gf args) w)
  (l a : Nat) (ha : a ≤ w.heap.size) (J Jx : Nat → List Row → World → Prop) (hJ : ∀ N, a ≤ N → OwnFrom a (J N)) (hJx : ∀ N, a ≤ N → OwnFrom a (Jx N)) (hR : ∀ N, a ≤ N → Rounds2 Fence.wide Tryz.prog l (J N) (Jx N) a N (notedL R xs)) (h0 : ∀ W', Below w.heap.size w W' → J W'.heap.size [] W') :
  CallsIn Fence.wide n Tryz.prog 48 #[.pointer (some ⟨br, 0, none⟩), .func (.func gf) #[] lb, .func (.yield l) #[] #[]] w fun e W' => e = .returned (.tuple #[]) ∧ ∃ N, a ≤ N ∧ (J N (notedL R xs) W' ∨ ∃ pre, pre <+: notedL R xs ∧ Jx N pre W') := by
 obtain ⟨i0, hi, hz0, hz1, hz2⟩ := info_parts infoR
 have H := Aside0.mk h
 obtain ⟨Ao, co, As, cs, hp, _⟩ := h.hp
 have HP := Aside0.mk hp
 have HXS := Aside0.mk (And.intro hxs (And.intro hxn hxd))
 have HJ := Aside0.mk (And.intro hJ (And.intro hJx (And.intro hR h0)))
 clear h hp hxs hxn hxd hJ hJx hR h0
 refine callsIn_of_wp_marks Tryz.func48 rfl trivial ?_ rfl
 simp only [Tryz.ntmps48, List.size_toArray, List.length_cons, List.length_nil, Nat.reduceAdd, Nat.reduceSub, Array.replicate_succ, Array.replicate_zero, List.push_toArray, List.append_toArray, List.nil_append, List.cons_append]
 gi_wp2
 have b0 : Below w.heap.size w (w.alloc (.cells #[.pointer (some ⟨br, 0, none⟩)] 24)) := below_alloc (Below.refl _ _) _
 have b1 : Below w.heap.size w ((w.alloc (.cells #[.pointer (some ⟨br, 0, none⟩)] 24)).alloc (.cells #[.slice none 0 0] 137)) := below_alloc b0 _
 have bBr : Boxed ((w.alloc (.cells #[.pointer (some ⟨br, 0, none⟩)] 24)).alloc (.cells #[.slice none 0 0] 137)) w.heap.size 24 (.pointer (some ⟨br, 0, none⟩)) := (Boxed.new w 24 (.pointer (some ⟨br, 0, none⟩))).alloc _
 have bB : Boxed ((w.alloc (.cells #[.pointer (some ⟨br, 0, none⟩)] 24)).alloc (.cells #[.slice none 0 0] 137)) (w.heap.size + 1) 137 (.slice none 0 0) := by
  have := Boxed.new (w.alloc (.cells #[.pointer (some ⟨br, 0, none⟩)] 24)) 137 (.slice none 0 0)
  rw [World.size_alloc] at this
  exact this
 have hsz2 : ((w.alloc (.cells #[.pointer (some ⟨br, 0, none⟩)] 24)).alloc (.cells #[.slice none 0 0] 137)).heap.size = w.heap.size + 2 := by simp
 refine range_outerO rfl rfl (gf := gf) (lb := lb) rfl trivial eg (fp := fp) (fun k hk => by have := hfp k hk; omega) (seqR_later hseq b1) rfl (CollI w (w.heap.size + 1) w.heap.size br R) (fun N _ => collI_own w _ _ br R N _ (by omega))
  (fun W' hW' _ => ⟨none, 0, [], (hW'.block _ (by omega)).trans bB, (hW'.block _ (by omega)).trans bBr, Nat.le_refl _, World.ownsRow_nil _ _ _ _, rfl, by simp, by simp, List.Pairwise.nil, below_then b1 b1.size hW'⟩)
  (fun x A c => { tmps := #[.pointer (some ⟨br, 0, none⟩), .func (.func gf) #[] lb, .func (.yield l) #[] #[], .pointer (some ⟨w.heap.size, 0, none⟩), undef, undef, .pointer (some ⟨w.heap.size + 1, 0, none⟩), .slice A x.length c, undef, undef, .func (.func gf) #[] lb, .slice A x.length c, undef, undef, undef, undef, undef, undef, undef, undef, undef, undef, undef, undef, undef, undef, undef, undef, undef, undef, undef, undef, undef, undef, undef, undef, undef, undef, undef, undef], defers := [] }) ?assign ?body ?done
 case assign =>
  intro l x A c W K hK
  gi_wp2
  exact hK
 case body =>
  rintro N l pre x A2 c2 W0 W1 hNw hl hrec ⟨A0, c0, es0, hb0, hbr0, hN0, ho0, ht0, hl0, ha0, hp0, hB00⟩ hpre ⟨hh1, hh2⟩ ⟨A, c, es, hb, hbr, hNW, ho, ht, hlk0, ha, hpw, hB⟩
  have hxm : x ∈ keys R := HXS.out.1 x (hpre.subset (by simp))
  obtain ⟨⟨n1, n2⟩, hn⟩ := lookF_some hxm
  have HNW : Aside0 (N ≤ W1.heap.size ∧ w.heap.size + 2 + 2 ≤ N) := ⟨hNW, by omega⟩
  have hpl : pre.length + 1 ≤ 1024 := by have := hpre.length_le; have := HXS.out.2.1; simp at *; omega
  have hblt : w.heap.size + 1 < W0.heap.size := (Array.getElem?_eq_some_iff.1 hb0).1
  have hsame : A = A0 ∧ c = c0 := by
   have e : W1.heap[w.heap.size + 1]? = W0.heap[w.heap.size + 1]? := hh1.block _ hblt
   have e1 : W1.heap[w.heap.size + 1]? = _ := hb
   have e0 : W0.heap[w.heap.size + 1]? = _ := hb0
   rw [e, e0] at e1
   simp at e1
   exact ⟨e1.1.symm, e1.2.symm⟩
  obtain ⟨rfl, rfl⟩ := hsame
  have HLT := Aside0.mk (coll_lt ho0 ho hh1 ha0)
  obtain ⟨pl, hplv⟩ : ∃ pl, pl = pre.length := ⟨_, rfl⟩
  have HMR := Aside0.mk (fun (w5 w7 : World) (g' cap' : Nat) (hs : Since W1 w5) ho7 hg7 => collI_more (w5 := w5) (w7 := w7) (g' := g') (cap' := cap') (nn := (n1, n2)) (x := x) (A2 := A2) (c2 := c2) (Nat.le_refl _) (Nat.lt_succ_self _) (by omega) hNW hb hbr ho ht hlk0 ha hpw hB (coll_lt ho0 ho hh1 ha0) (by have := hB00.size; omega) hh2 hn hs ho7 hg7)
  rw [← hplv] at hb ho HMR hpl
  have HPL2 := Aside0.mk hpl
  have HBX := Aside0.mk hb
  have HOW := Aside0.mk ho
  have HCB := Aside0.mk hb.cell
  have HOW5 := Aside0.mk (fun (w5 : World) (hs : Since W1 w5) => (own_move (w1 := w5) ho fun k hk => hs.b.block k (Tup.own_lt ho k hk.symm)).alloc (.cells #[.slice A2 x.length c2, .complex .f64 (nf n1) (nf n2)] 139))
  have HB7F := Aside0.mk (fun (w5 w7 : World) (hs : Since W1 w5) (hg : (w5.alloc (.cells #[.slice A2 x.length c2, .complex .f64 (nf n1) (nf n2)] 139)).grownBy w7 (Value.slice A pl c).ownBlock) => ((show Boxed w5 (w.heap.size + 1) 137 (.slice A pl c) from blk hs.b hb).alloc _).kept hg (hb.not_row (by decide) ho))
  have HNW5 := Aside0.mk (fun (w5 : World) (hs : Since W1 w5) => show N ≤ (w5.alloc (.cells #[.slice A2 x.length c2, .complex .f64 (nf n1) (nf n2)] 139)).heap.size by have := hs.b.size; simp; omega)
  have HCL := Aside0.mk (fun (w5 : World) (j : Nat) (u : Value) (hj : [Value.slice A2 x.length c2, Value.complex .f64 (nf n1) (nf n2)][j]? = some u) => show (w5.alloc (.cells #[.slice A2 x.length c2, .complex .f64 (nf n1) (nf n2)] 139)).cell? ((⟨w5.heap.size, 0, none⟩ : Addr).add j) = some u by
   rw [Addr.add_lit, Nat.zero_add, Tup.cell_of_heap (heap_alloc_new w5 _)]
   rw [← hj]; simp)
  have HKA := Aside0.mk (fun (w5 w7 : World) (hs : Since W1 w5) (hg : (w5.alloc (.cells #[.slice A2 x.length c2, .complex .f64 (nf n1) (nf n2)] 139)).grownBy w7 (Value.slice A pl c).ownBlock) => show KeptS (fun k => k = w.heap.size + 1 ∨ some k = (Value.slice A pl c).ownBlock) W1 w7 from
   ⟨hg.os.trans hs.b.os, hg.tape.trans hs.b.tape, hg.output.trans hs.b.output, by have := hg.size; have := hs.b.size; simp at *; omega, fun k hk hn => by
    rw [hg.block k (by have := hs.b.size; simp; omega) (fun e => hn (.inr e)), Below.heap_alloc _ _ _ (by have := hs.b.size; omega), hs.b.block k hk]⟩)
  have hbrlt := H.out.lt
  have hBsz := hB.size
  have hown1 := own_ge ho
  have HKQ := Aside0.mk (fun (w' : World) (hk : KeptS (fun k => k = w.heap.size + 1 ∨ some k = (Value.slice A pl c).ownBlock) W1 w') => And.intro (show w'.cell? ⟨w.heap.size, 0, none⟩ = some (.pointer (some ⟨br, 0, none⟩)) from
    (Tup.cell_of_heap ((hk.same w.heap.size (by omega) (fun e => e.elim (by omega) fun e => by have := hown1 _ e; omega)).trans hbr) 0).trans rfl) (And.intro (show w'.cell? ⟨br, 4, none⟩ = some (.map (some m)) from (Tup.cell_of_heap ((hk.same br (by omega) (fun e => e.elim (by omega) fun e => by have := hown1 _ e; omega)).trans ((hB.block br hbrlt).trans HP.out)) 4).trans rfl) hk))
  have HSL := Aside0.mk (Handed1.sl (W := W0) ⟨hh1, hh2⟩)
  have H8 := Aside0.mk (show x.length ≤ 8 by have := H.out.hR.key hxm; have := H.out.hos.w8; omega)
  have HL := Aside0.mk (fun (w5 : World) (hs : Since W1 w5) => look_plain (H.out.map.step (by rw [hs.b.block m (by have := H.out.map.lt; omega), hB.block m H.out.map.lt])) H.out.hos.w8 x (H.out.hR.key hxm) hn)
  have HTAIL := Aside0.mk (fun (w5 w7 : World) (g' cap' : Nat) (hs : Since W1 w5) ho7 hg7 => show KeepsFrom ((w.alloc (.cells #[.pointer (some ⟨br, 0, none⟩)] 24)).alloc (.cells #[.slice none 0 0] 137)).heap.size W1 (w7.setCell ⟨w.heap.size + 1, 0, none⟩ (.slice (some ⟨g', 0, none⟩) (pl + 1) cap')) ∧ KpF (Priv fp (((w.alloc (.cells #[.pointer (some ⟨br, 0, none⟩)] 24)).alloc (.cells #[.slice none 0 0] 137)).heap.size + 2) N) W1 (w7.setCell ⟨w.heap.size + 1, 0, none⟩ (.slice (some ⟨g', 0, none⟩) (pl + 1) cap')) ∧ CollI w (w.heap.size + 1) w.heap.size br R N (pre ++ [x]) (w7.setCell ⟨w.heap.size + 1, 0, none⟩ (.slice (some ⟨g', 0, none⟩) (pl + 1) cap')) from by
   obtain ⟨h1, h2, h3, h4⟩ := HMR.out w5 w7 g' cap' hs ho7 hg7
   exact ⟨h2.from _, ⟨h4, fun k hk _ => hk.elim (fun h => h3 k (by have := hfp k h; omega) (by have := hfp k h; omega)) (fun h => h3 k h.2 (by have := h.1; omega))⟩, h1⟩)
  clear hb0 hbr0 hN0 ho0 ht0 hl0 ha0 hp0 hB00 hh1 hh2 hb hbr hNW ho ht hlk0 ha hpw hB hxm hpl hplv hrec hn hown1 hNw hblt
  gi_wp2
  refine region_round (S := fun w' => w'.cell? ⟨w.heap.size, 0, none⟩ = some (.pointer (some ⟨br, 0, none⟩)) ∧ w'.cell? ⟨br, 4, none⟩ = some (.map (some m)) ∧ KeptS (fun k => k = w.heap.size + 1 ∨ some k = (Value.slice A pl c).ownBlock) W1 w') (by kernel_rfl) (by kernel_rfl) ?_ (HKQ.out _ (KeptS.below (Since.refl W1).drew.b)) (fun hHeld => ?_)
  ·rintro ⟨a, w, h⟩
   exact h
  have hs1 : Since W1 W1.drew := (Since.refl W1).drew
  have cB0 := pw_cell_below hs1.b HCB.out
  refine wpAnyH_take (i := 1) (v := ?_) rfl (by kernel_rfl) (by kernel_rfl) (by kernel_rfl) (fun _ _ _ h => h) (Or.inl ⟨by rfl, ?_⟩) hHeld ?_
  rotate_left
  ·intro w hSw; obtain ⟨hSa, hSb, hSc⟩ := hSw; go_simp; try with_reducible rfl
  try simp only [Act.put, List.setIfInBounds_toArray, List.set_cons_zero, List.set_cons_succ]
  refine wpAnyH_take (i := 2) (v := ?_) rfl (by kernel_rfl) (by kernel_rfl) (by kernel_rfl) (fun _ _ _ h => h) (Or.inl ⟨by rfl, ?_⟩) hHeld ?_
  rotate_left
  ·intro w hSw; obtain ⟨hSa, hSb, hSc⟩ := hSw; go_simp; try with_reducible rfl
  try simp only [Act.put, List.setIfInBounds_toArray, List.set_cons_zero, List.set_cons_succ]
  refine wpAnyH_take (i := 3) (v := ?_) rfl (by kernel_rfl) (by kernel_rfl) (by kernel_rfl) (fun _ _ _ h => h) (Or.inl ⟨by rfl, ?_⟩) hHeld ?_
  rotate_left
  ·intro w hSw; obtain ⟨hSa, hSb, hSc⟩ := hSw; go_simp; try with_reducible rfl
  try simp only [Act.put, List.setIfInBounds_toArray, List.set_cons_zero, List.set_cons_succ]
  refine wpAnyH_take (i := 4) (v := ?_) rfl (by kernel_rfl) (by kernel_rfl) (by kernel_rfl) (fun _ _ _ h => h) (Or.inl ⟨by rfl, ?_⟩) hHeld ?_
  rotate_left
  ·intro w hSw; obtain ⟨hSa, hSb, hSc⟩ := hSw; go_simp; try with_reducible rfl
  try simp only [Act.put, List.setIfInBounds_toArray, List.set_cons_zero, List.set_cons_succ]
  refine wpAnyH_take (i := 5) (v := ?_) rfl (by kernel_rfl) (by kernel_rfl) (by kernel_rfl) (fun _ _ _ h => h) (Or.inl ⟨by rfl, ?_⟩) hHeld ?_
  rotate_left
  ·intro w hSw; obtain ⟨hSa, hSb, hSc⟩ := hSw; go_simp; try with_reducible rfl
  try simp only [Act.put, List.setIfInBounds_toArray, List.set_cons_zero, List.set_cons_succ]
  refine wpAnyH_take (i := 6) (v := ?_) rfl (by kernel_rfl) (by kernel_rfl) (by kernel_rfl) (fun _ _ _ h => h) (Or.inl ⟨by rfl, ?_⟩) hHeld ?_
  rotate_left
  ·intro w hSw; obtain ⟨hSa, hSb, hSc⟩ := hSw; go_simp; try with_reducible rfl
  try simp only [Act.put, List.setIfInBounds_toArray, List.set_cons_zero, List.set_cons_succ]
  refine wpAnyH_ready (rs := [0, 7]) (by kernel_rfl) (by simp) ?_
  refine AllReadyH.cons rfl (fun K hK => ?_) ?_
  ·go_simp
   refine hK.out _ _ (by assumption) (fun hHeld => ?_)
   clear hK K
   try simp only [Act.put, List.setIfInBounds_toArray, List.set_cons_zero, List.set_cons_succ]
   refine wpAnyH_ready (rs := [7]) (by kernel_rfl) (by simp) ?_
   refine AllReadyH.cons rfl (fun K hK => ?_) AllReadyH.nil
   go_simp
   go_wp2_with (go_at_call 39; refine (key_calls _ A2 c2 x (HSL.out.below (Since.b (by assumption : Since W1 _))) H8.out).mono ?_; rintro e w5 ⟨rfl, hb5⟩; have hs5 : Since W1 w5 := Since.trans (by assumption) (Since.mk hb5); have hlk := HL.out w5 hs5; have cB5 : w5.cell? ⟨w.heap.size + 1, 0, none⟩ = some (.slice A pl c) := pw_cell_below hs5.b HCB.out; have cB6 : (w5.alloc (.cells #[.slice A2 x.length c2, .complex .f64 (nf n1) (nf n2)] 139)).cell? ⟨w.heap.size + 1, 0, none⟩ = some (.slice A pl c) := pw_cell_below (hs5.alloc _).b HCB.out; have HS5 := Aside0.mk hs5; have HK5 := Aside0.mk (HKQ.out w5 (KeptS.below hs5.b)); have HK6 := Aside0.mk (HKQ.out _ (KeptS.below (hs5.alloc (.cells #[.slice A2 x.length c2, .complex .f64 (nf n1) (nf n2)] 139)).b)))
   refine hK.out _ _ (HK5.out) (fun hHeld => ?_)
   clear hK K
   try simp only [Act.put, List.setIfInBounds_toArray, List.set_cons_zero, List.set_cons_succ]
   refine wpAnyH_ready (rs := [8]) (by kernel_rfl) (by simp) ?_
   refine AllReadyH.cons rfl (fun K hK => ?_) AllReadyH.nil
   go_simp
   refine hK.out _ _ (HK5.out) (fun hHeld => ?_)
   clear hK K
   try simp only [Act.put, List.setIfInBounds_toArray, List.set_cons_zero, List.set_cons_succ]
   refine wpAnyH_take (i := 9) (v := ?_) rfl (by kernel_rfl) (by kernel_rfl) (by kernel_rfl) (fun _ _ _ h => h) (Or.inl ⟨by rfl, ?_⟩) hHeld ?_
   rotate_left
   ·intro w hSw; obtain ⟨hSa, hSb, hSc⟩ := hSw; go_simp; try with_reducible rfl
   try simp only [Act.put, List.setIfInBounds_toArray, List.set_cons_zero, List.set_cons_succ]
   refine wpAnyH_ready (rs := [10]) (by kernel_rfl) (by simp) ?_
   refine AllReadyH.cons rfl (fun K hK => ?_) AllReadyH.nil
   go_simp
   refine hK.out _ _ (HK6.out) (fun hHeld => ?_)
   clear hK K
   try simp only [Act.put, List.setIfInBounds_toArray, List.set_cons_zero, List.set_cons_succ]
   refine wpAnyH_ready (rs := [11]) (by kernel_rfl) (by simp) ?_
   refine AllReadyH.cons rfl (fun K hK => ?_) AllReadyH.nil
   refine step_append_at rfl (.tmp 12) (.tmp 22) 137 rfl N 139 i0 (.agg #[.slice none 0 0, .complex .f64 0 0]) 2 40 Tryz.underlying137 hi hz0 hz1 hz2 rfl (by decide) (.slice A pl c) pl (es.flatMap Elt.enc) rfl (HOW5.out w5 HS5.out) ⟨w5.heap.size, 0, none⟩ 1 1 [.slice A2 x.length c2, .complex .f64 (nf n1) (nf n2)] rfl rfl (HCL.out w5) (by simp [Value.oneCell']) (by have := HPL2.out; unfold maxLen; omega) (by have := HPL2.out; omega) (HNW5.out w5 HS5.out) ?_; intro v' w7 hown7 hg7 hat7; obtain ⟨g', cap', rfl⟩ := ownsRow_succ hown7; have HB7 := HB7F.out w5 w7 HS5.out hg7; have cB7 := HB7.cell; have f7 := HB7.frozen; have HK7 := Aside0.mk (HKQ.out w7 (HKA.out w5 w7 HS5.out hg7)); have HK8 := Aside0.mk (HKQ.out _ ((HKA.out w5 w7 HS5.out hg7).trans (KeptS.setB w7 (w.heap.size + 1) (.slice (some ⟨g', 0, none⟩) (pl + 1) cap') (.inl rfl)))); have HOW7 := Aside0.mk (And.intro hown7 hg7); clear hown7 hg7 hat7 HB7
   refine hK.out _ _ (HK7.out) (fun hHeld => ?_)
   clear hK K
   try simp only [Act.put, List.setIfInBounds_toArray, List.set_cons_zero, List.set_cons_succ]
   refine wpAnyH_ready (rs := [12]) (by kernel_rfl) (by simp) ?_
   refine AllReadyH.cons rfl (fun K hK => ?_) AllReadyH.nil
   go_simp
   refine hK.out _ _ (HK8.out) (fun hHeld => ?_)
   clear hK K
   try simp only [Act.put, List.setIfInBounds_toArray, List.set_cons_zero, List.set_cons_succ]
   refine wpAnyH_done (by kernel_rfl) ?_ _
   exact HTAIL.out _ _ _ _ HS5.out HOW7.out.1 HOW7.out.2
  refine AllReadyH.cons rfl (fun K hK => ?_) ?_
  ·go_simp
   go_wp2_with (go_at_call 39; refine (key_calls _ A2 c2 x (HSL.out.below (Since.b (by assumption : Since W1 _))) H8.out).mono ?_; rintro e w5 ⟨rfl, hb5⟩; have hs5 : Since W1 w5 := Since.trans (by assumption) (Since.mk hb5); have hlk := HL.out w5 hs5; have cB5 : w5.cell? ⟨w.heap.size + 1, 0, none⟩ = some (.slice A pl c) := pw_cell_below hs5.b HCB.out; have cB6 : (w5.alloc (.cells #[.slice A2 x.length c2, .complex .f64 (nf n1) (nf n2)] 139)).cell? ⟨w.heap.size + 1, 0, none⟩ = some (.slice A pl c) := pw_cell_below (hs5.alloc _).b HCB.out; have HS5 := Aside0.mk hs5; have HK5 := Aside0.mk (HKQ.out w5 (KeptS.below hs5.b)); have HK6 := Aside0.mk (HKQ.out _ (KeptS.below (hs5.alloc (.cells #[.slice A2 x.length c2, .complex .f64 (nf n1) (nf n2)] 139)).b)))
   refine hK.out _ _ (HK5.out) (fun hHeld => ?_)
   clear hK K
   try simp only [Act.put, List.setIfInBounds_toArray, List.set_cons_zero, List.set_cons_succ]
   refine wpAnyH_ready (rs := [0, 8]) (by kernel_rfl) (by simp) ?_
   refine AllReadyH.cons rfl (fun K hK => ?_) ?_
   ·go_simp
    refine hK.out _ _ (by assumption) (fun hHeld => ?_)
    clear hK K
    try simp only [Act.put, List.setIfInBounds_toArray, List.set_cons_zero, List.set_cons_succ]
    refine wpAnyH_ready (rs := [8]) (by kernel_rfl) (by simp) ?_
    refine AllReadyH.cons rfl (fun K hK => ?_) AllReadyH.nil
    go_simp
    refine hK.out _ _ (HK5.out) (fun hHeld => ?_)
    clear hK K
    try simp only [Act.put, List.setIfInBounds_toArray, List.set_cons_zero, List.set_cons_succ]
    refine wpAnyH_take (i := 9) (v := ?_) rfl (by kernel_rfl) (by kernel_rfl) (by kernel_rfl) (fun _ _ _ h => h) (Or.inl ⟨by rfl, ?_⟩) hHeld ?_
    rotate_left
    ·intro w hSw; obtain ⟨hSa, hSb, hSc⟩ := hSw; go_simp; try with_reducible rfl
    try simp only [Act.put, List.setIfInBounds_toArray, List.set_cons_zero, List.set_cons_succ]
    refine wpAnyH_ready (rs := [10]) (by kernel_rfl) (by simp) ?_
    refine AllReadyH.cons rfl (fun K hK => ?_) AllReadyH.nil
    go_simp
    refine hK.out _ _ (HK6.out) (fun hHeld => ?_)
    clear hK K
    try simp only [Act.put, List.setIfInBounds_toArray, List.set_cons_zero, List.set_cons_succ]
    refine wpAnyH_ready (rs := [11]) (by kernel_rfl) (by simp) ?_
    refine AllReadyH.cons rfl (fun K hK => ?_) AllReadyH.nil
    refine step_append_at rfl (.tmp 12) (.tmp 22) 137 rfl N 139 i0 (.agg #[.slice none 0 0, .complex .f64 0 0]) 2 40 Tryz.underlying137 hi hz0 hz1 hz2 rfl (by decide) (.slice A pl c) pl (es.flatMap Elt.enc) rfl (HOW5.out w5 HS5.out) ⟨w5.heap.size, 0, none⟩ 1 1 [.slice A2 x.length c2, .complex .f64 (nf n1) (nf n2)] rfl rfl (HCL.out w5) (by simp [Value.oneCell']) (by have := HPL2.out; unfold maxLen; omega) (by have := HPL2.out; omega) (HNW5.out w5 HS5.out) ?_; intro v' w7 hown7 hg7 hat7; obtain ⟨g', cap', rfl⟩ := ownsRow_succ hown7; have HB7 := HB7F.out w5 w7 HS5.out hg7; have cB7 := HB7.cell; have f7 := HB7.frozen; have HK7 := Aside0.mk (HKQ.out w7 (HKA.out w5 w7 HS5.out hg7)); have HK8 := Aside0.mk (HKQ.out _ ((HKA.out w5 w7 HS5.out hg7).trans (KeptS.setB w7 (w.heap.size + 1) (.slice (some ⟨g', 0, none⟩) (pl + 1) cap') (.inl rfl)))); have HOW7 := Aside0.mk (And.intro hown7 hg7); clear hown7 hg7 hat7 HB7
    refine hK.out _ _ (HK7.out) (fun hHeld => ?_)
    clear hK K
    try simp only [Act.put, List.setIfInBounds_toArray, List.set_cons_zero, List.set_cons_succ]
    refine wpAnyH_ready (rs := [12]) (by kernel_rfl) (by simp) ?_
    refine AllReadyH.cons rfl (fun K hK => ?_) AllReadyH.nil
    go_simp
    refine hK.out _ _ (HK8.out) (fun hHeld => ?_)
    clear hK K
    try simp only [Act.put, List.setIfInBounds_toArray, List.set_cons_zero, List.set_cons_succ]
    refine wpAnyH_done (by kernel_rfl) ?_ _
    exact HTAIL.out _ _ _ _ HS5.out HOW7.out.1 HOW7.out.2
   refine AllReadyH.cons rfl (fun K hK => ?_) ?_
   ·go_simp
    refine hK.out _ _ (HK5.out) (fun hHeld => ?_)
    clear hK K
    try simp only [Act.put, List.setIfInBounds_toArray, List.set_cons_zero, List.set_cons_succ]
    refine wpAnyH_take (i := 9) (v := ?_) rfl (by kernel_rfl) (by kernel_rfl) (by kernel_rfl) (fun _ _ _ h => h) (Or.inl ⟨by rfl, ?_⟩) hHeld ?_
    rotate_left
    ·intro w hSw; obtain ⟨hSa, hSb, hSc⟩ := hSw; go_simp; try with_reducible rfl
    try simp only [Act.put, List.setIfInBounds_toArray, List.set_cons_zero, List.set_cons_succ]
    refine wpAnyH_ready (rs := [0, 10]) (by kernel_rfl) (by simp) ?_
    refine AllReadyH.cons rfl (fun K hK => ?_) ?_
    ·go_simp
     refine hK.out _ _ (by assumption) (fun hHeld => ?_)
     clear hK K
     try simp only [Act.put, List.setIfInBounds_toArray, List.set_cons_zero, List.set_cons_succ]
     refine wpAnyH_ready (rs := [10]) (by kernel_rfl) (by simp) ?_
     refine AllReadyH.cons rfl (fun K hK => ?_) AllReadyH.nil
     go_simp
     refine hK.out _ _ (HK6.out) (fun hHeld => ?_)
     clear hK K
     try simp only [Act.put, List.setIfInBounds_toArray, List.set_cons_zero, List.set_cons_succ]
     refine wpAnyH_ready (rs := [11]) (by kernel_rfl) (by simp) ?_
     refine AllReadyH.cons rfl (fun K hK => ?_) AllReadyH.nil
     refine step_append_at rfl (.tmp 12) (.tmp 22) 137 rfl N 139 i0 (.agg #[.slice none 0 0, .complex .f64 0 0]) 2 40 Tryz.underlying137 hi hz0 hz1 hz2 rfl (by decide) (.slice A pl c) pl (es.flatMap Elt.enc) rfl (HOW5.out w5 HS5.out) ⟨w5.heap.size, 0, none⟩ 1 1 [.slice A2 x.length c2, .complex .f64 (nf n1) (nf n2)] rfl rfl (HCL.out w5) (by simp [Value.oneCell']) (by have := HPL2.out; unfold maxLen; omega) (by have := HPL2.out; omega) (HNW5.out w5 HS5.out) ?_; intro v' w7 hown7 hg7 hat7; obtain ⟨g', cap', rfl⟩ := ownsRow_succ hown7; have HB7 := HB7F.out w5 w7 HS5.out hg7; have cB7 := HB7.cell; have f7 := HB7.frozen; have HK7 := Aside0.mk (HKQ.out w7 (HKA.out w5 w7 HS5.out hg7)); have HK8 := Aside0.mk (HKQ.out _ ((HKA.out w5 w7 HS5.out hg7).trans (KeptS.setB w7 (w.heap.size + 1) (.slice (some ⟨g', 0, none⟩) (pl + 1) cap') (.inl rfl)))); have HOW7 := Aside0.mk (And.intro hown7 hg7); clear hown7 hg7 hat7 HB7
     refine hK.out _ _ (HK7.out) (fun hHeld => ?_)
     clear hK K
     try simp only [Act.put, List.setIfInBounds_toArray, List.set_cons_zero, List.set_cons_succ]
     refine wpAnyH_ready (rs := [12]) (by kernel_rfl) (by simp) ?_
     refine AllReadyH.cons rfl (fun K hK => ?_) AllReadyH.nil
     go_simp
     refine hK.out _ _ (HK8.out) (fun hHeld => ?_)
     clear hK K
     try simp only [Act.put, List.setIfInBounds_toArray, List.set_cons_zero, List.set_cons_succ]
     refine wpAnyH_done (by kernel_rfl) ?_ _
     exact HTAIL.out _ _ _ _ HS5.out HOW7.out.1 HOW7.out.2
    refine AllReadyH.cons rfl (fun K hK => ?_) ?_
    ·go_simp
     refine hK.out _ _ (HK6.out) (fun hHeld => ?_)
     clear hK K
     try simp only [Act.put, List.setIfInBounds_toArray, List.set_cons_zero, List.set_cons_succ]
     refine wpAnyH_ready (rs := [0]) (by kernel_rfl) (by simp) ?_
     refine AllReadyH.cons rfl (fun K hK => ?_) AllReadyH.nil
     go_simp
     refine hK.out _ _ (by assumption) (fun hHeld => ?_)
     clear hK K
     try simp only [Act.put, List.setIfInBounds_toArray, List.set_cons_zero, List.set_cons_succ]
     refine wpAnyH_ready (rs := [11]) (by kernel_rfl) (by simp) ?_
     refine AllReadyH.cons rfl (fun K hK => ?_) AllReadyH.nil
     refine step_append_at rfl (.tmp 12) (.tmp 22) 137 rfl N 139 i0 (.agg #[.slice none 0 0, .complex .f64 0 0]) 2 40 Tryz.underlying137 hi hz0 hz1 hz2 rfl (by decide) (.slice A pl c) pl (es.flatMap Elt.enc) rfl (HOW5.out w5 HS5.out) ⟨w5.heap.size, 0, none⟩ 1 1 [.slice A2 x.length c2, .complex .f64 (nf n1) (nf n2)] rfl rfl (HCL.out w5) (by simp [Value.oneCell']) (by have := HPL2.out; unfold maxLen; omega) (by have := HPL2.out; omega) (HNW5.out w5 HS5.out) ?_; intro v' w7 hown7 hg7 hat7; obtain ⟨g', cap', rfl⟩ := ownsRow_succ hown7; have HB7 := HB7F.out w5 w7 HS5.out hg7; have cB7 := HB7.cell; have f7 := HB7.frozen; have HK7 := Aside0.mk (HKQ.out w7 (HKA.out w5 w7 HS5.out hg7)); have HK8 := Aside0.mk (HKQ.out _ ((HKA.out w5 w7 HS5.out hg7).trans (KeptS.setB w7 (w.heap.size + 1) (.slice (some ⟨g', 0, none⟩) (pl + 1) cap') (.inl rfl)))); have HOW7 := Aside0.mk (And.intro hown7 hg7); clear hown7 hg7 hat7 HB7
     refine hK.out _ _ (HK7.out) (fun hHeld => ?_)
     clear hK K
     try simp only [Act.put, List.setIfInBounds_toArray, List.set_cons_zero, List.set_cons_succ]
     refine wpAnyH_ready (rs := [12]) (by kernel_rfl) (by simp) ?_
     refine AllReadyH.cons rfl (fun K hK => ?_) AllReadyH.nil
     go_simp
     refine hK.out _ _ (HK8.out) (fun hHeld => ?_)
     clear hK K
     try simp only [Act.put, List.setIfInBounds_toArray, List.set_cons_zero, List.set_cons_succ]
     refine wpAnyH_done (by kernel_rfl) ?_ _
     exact HTAIL.out _ _ _ _ HS5.out HOW7.out.1 HOW7.out.2
    exact AllReadyH.nil
   exact AllReadyH.nil
  exact AllReadyH.nil
 case done =>
  rintro Nc D W hNw hD ⟨A, c, es, hb, hbr, hNW, ho, ht, hlk0, hat, hpw, hB⟩ hK
  have hdd : ∀ k : Nat, (Fence.wide.depth.isSome = true → 1 ≤ k) := fun k h => by cases h
  obtain ⟨xn, hxn⟩ : ∃ xn, xn = xs.length := ⟨_, rfl⟩
  rw [← hxn] at hb ho
  have hesl : es.length = xn := by rw [hxn, ← ht, List.length_map]
  have hkey : ∀ e ∈ es, e.t.length = wd := fun e he => H.out.hR.key (mem_keys (lookF_mem (hlk0 e he)))
  have hxn2 : xn ≤ 1024 := by rw [hxn]; exact HXS.out.2.1
  have HSO := Aside0.mk (sort_rows W wd w.heap.size Nc xn c A (by have := H.out.hos.w8; omega) es ho hat hkey hesl hxn2)
  have hc := hb.cell
  have HBO := Aside0.mk (hb.not_row (by decide) ho)
  have HDn := Aside0.mk hD
  have hDW : D < W.heap.size := (Array.getElem?_eq_some_iff.1 hK).1
  have HPP := Aside0.mk (fun (w5 : World) (fs : List Elt) (hp : fs.Perm es) (hs : fs.Pairwise fun a b => ¬ Lt (plainO wd) b.t a.t) (hown5 : w5.ownsRow Nc 139 2 (.slice A xn c) xn (fs.flatMap Elt.enc)) (hg5 : W.grownBy w5 (Value.slice A xn c).ownBlock) =>
   show fs.map Elt.row = notedL R xs ∧ YieldN a w5.heap.size A D Nc xn fs w.heap.size ∧ YieldI a w5.heap.size A D Nc xn c (J w5.heap.size) fs w.heap.size 0 w5 from by
    have hsz5 := hg5.size
    have hBz := hB.size
    have hge := own_ge ho
    have hB5 : Below w.heap.size w w5 := ⟨hg5.os.trans hB.os, hg5.tape.trans hB.tape, hg5.output.trans hB.output, by omega, fun k hk => (hg5.block k (by omega) (fun e => by have := hge k e; omega)).trans (hB.block k hk)⟩
    have hat5 : ∀ e ∈ es, e.At w5 w.heap.size := fun e he => own_move (hat e he) fun k hk => hg5.block k (Tup.own_lt (hat e he) k hk.symm) (fun e' => by
     obtain ⟨c1, h1⟩ := own_typed (hat e he) k hk
     obtain ⟨c2, h2⟩ := own_typed ho k e'.symm
     rw [h1] at h2
     injection h2 with h2
     injection h2 with _ h2 _
     exact absurd h2 (by decide))
    refine ⟨noted_list H.out.hR HXS.out.2.2 ht hlk0 hp hs, ⟨by rw [hp.length_eq, hesl], ha, fun f hf k hk => ⟨own_ge (hat5 f (hp.subset hf)) k hk.symm, Tup.own_lt (hat5 f (hp.subset hf)) k hk.symm⟩, (hp.pairwise_iff (fun h => Elt.ne.symm h)).2 hpw, fun ad e => ⟨by (have := own_ge hown5 ad.block (by rw [e]; rfl)); omega, Tup.own_lt hown5 ad.block (by rw [e]; rfl)⟩, by omega, by omega⟩, ⟨by rw [List.take_zero]; exact HJ.out.2.2.2 w5 hB5, hown5, fun j hj _ => hat5 _ (hp.subset (List.getElem_mem hj)), ?_⟩⟩
    refine (hg5.block D hDW (fun e => ?_)).trans hK
    obtain ⟨c2, h2⟩ := own_typed ho D e.symm
    rw [hK] at h2
    cases h2)
  clear hb hbr ho ht hlk0 hat hpw hK hD hesl hkey hxn hDW hNW hB b0 b1 bBr bB
  have HNw := Aside0.mk (show a ≤ Nc by omega)
  clear hNw hsz2
  gi_wp2_with (first
   | ((try refine ⟨trivial, ?_⟩); (try refine ⟨hdd _, ?_⟩); gi_at_call 71; refine (callsIn_wide.2 HSO.out).mono ?_; rintro e w5 ⟨rfl, fs, hp, hs, hown5, hg5⟩; have HPQ := Aside0.mk (HPP.out w5 fs hp hs hown5 hg5); have hc5 : w5.cell? ⟨w.heap.size + 1, 0, none⟩ = some (.slice A xn c) := hg5.cell hc (HBO.out); clear hp hs hown5 hg5))
  obtain ⟨NN, hNN⟩ : ∃ NN, NN = w5.heap.size := ⟨_, rfl⟩
  rw [← hNN] at HPQ
  have HaN := Aside0.mk (show a ≤ NN by have := HPQ.out.2.1.d1; have := HPQ.out.2.1.d2; omega)
  have HYS := Aside0.mk HPQ.out.1
  have HYN := Aside0.mk HPQ.out.2.1
  have HY0 := Aside0.mk HPQ.out.2.2
  clear HPP hNN hc hc5 HSO HPQ
  gi_loopg [28] xn (fun gk v28 wr => ∃ k : Nat, v28 = .int .i64 (k : Int) ∧ Aside0 (k + gk = xn) ∧ Aside0 (YieldI a NN A D Nc xn c (J NN) fs w.heap.size k wr))
  case atStart => exact ⟨0, rfl, ⟨by omega⟩, HY0⟩
  case round =>
   obtain ⟨k, rfl, HK, HY⟩ := hrel
   clear HY0
   by_cases hk : k < xn
   ·have hkd : decide (k < xn) = true := decide_eq_true hk
    have hki : (k : Int) < (xn : Int) := by omega
    have hkf : k < fs.length := by rw [HYN.out.len]; exact hk
    obtain ⟨e, he⟩ : ∃ e, e = fs[k] := ⟨_, rfl⟩
    have hek := HY.out.els k hkf (Nat.le_refl _)
    have hfl := flat_at fs k hkf
    rw [← he] at hek hfl
    obtain ⟨g, rfl⟩ : ∃ g, A = some ⟨g, 0, none⟩ := by
     rcases HY.out.own.2 with ⟨_, h⟩ | ⟨g, cap, cur, e, _⟩
     ·omega
     ·injection e with e1 _ _
      exact ⟨g, e1⟩
    have c1 := (HY.out.own.cellAt (k * 2) (by omega)).trans hfl.1
    have c2 := (HY.out.own.cellAt (k * 2 + 1) (by omega)).trans hfl.2
    have HR := Aside0.mk (HJ.out.2.2.1 NN HaN.out (n - 1) ((fs.map Elt.row).take k) e.row e.A e.c)
    have HPre := Aside0.mk (show (fs.map Elt.row).take k ++ [e.row] <+: notedL R xs from by
     have h1 : (fs.map Elt.row).take (k + 1) = (fs.map Elt.row).take k ++ [e.row] := by
      rw [List.take_succ_eq_append_getElem (by simpa using hkf)]; simp [he]
     rw [← HYS.out, ← h1]
     exact List.take_prefix _ _)
    have HE := Aside0.mk he
    have HEK := Aside0.mk hek
    obtain ⟨Ae, ce, te, n1, n2⟩ := e
    simp only [Elt.v, noteV] at c1 c2
    have HYa := Aside0.mk (HY.out.alloc (HJ.out.1 NN HaN.out) (.cells #[.slice Ae te.length ce, .complex .f64 (nf n1) (nf n2)] 139))
    obtain ⟨fn, tmps, assign, body, hy, hRo⟩ := HR.out (wr.alloc (.cells #[.slice Ae te.length ce, .complex .f64 (nf n1) (nf n2)] 139)) HYa.out.j HPre.out ⟨own_weaken (own_move HEK.out fun i hi => Below.heap_alloc _ _ _ (Tup.own_lt HEK.out i hi.symm)) HYN.out.ab, fun i hi => (HYN.out.bl _ (by rw [HE.out]; exact List.getElem_mem hkf) i hi).2⟩
    dsimp only [Elt.row, noteV] at hy
    clear he hek hfl
    gi_wp2_with (first
     | ((try refine ⟨trivial, ?_⟩); (try refine ⟨hdd _, ?_⟩); refine hRo.mono ?_; clear hRo; rintro e w6 (⟨rfl, hJ6, hk6⟩ | ⟨rfl, hx6, hk6⟩)))
    ·have HY6 := Aside0.mk (YieldI.more HYa.out HYN.out hkf (by rw [← HE.out]; exact hJ6) (by rw [← HE.out]; exact hk6))
     obtain ⟨g2, hg2⟩ : ∃ g2, g2 = gk - 1 := ⟨_, rfl⟩
     go_roundg g2
     case measure => have := HK.out; omega
     case rel => exact ⟨k + 1, by go_num, ⟨by have := HK.out; omega⟩, HY6⟩
    ·have hd6 : w6.heap[D]? = some (.deferred (some [])) := hk6.same D _ HYN.out.d1 HYa.out.d rfl
     have HX := Aside0.mk ((HJ.out.2.1 NN HaN.out).putObj (.deferred none) hx6 HYN.out.d1 hd6 rfl)
     have HD6 := Aside0.mk hd6
     clear hx6 hk6 hd6
     refine ⟨by simp, .inl ⟨_, _, rfl, run_takeDeferred HD6.out, ?_⟩⟩
     exact ⟨_, results_none rfl _ _ _, rfl, NN, HaN.out, .inr ⟨_, HPre.out, HX.out⟩⟩
   ·have hkd : decide (k < xn) = false := decide_eq_false hk
    have hki : ¬ (k : Int) < (xn : Int) := by omega
    have hkx : k = fs.length := by have := HK.out; have := HYN.out.len; omega
    have HYf := HY.out
    subst hkx
    have hjf := HYf.j
    rw [List.take_of_length_le (by simp), HYS.out] at hjf
    have HJF := Aside0.mk hjf
    have HD9 := Aside0.mk HYf.d
    clear hjf HYf
    gi_wp2
    refine ⟨by simp, .inl ⟨_, _, rfl, run_takeDeferred HD9.out, ?_⟩⟩
    exact ⟨_, results_none rfl _ _ _, rfl, NN, HaN.out, .inl ((HJ.out.1 NN HaN.out).putObj (.deferred none) HJF.out HYN.out.d1 HD9.out rfl)⟩
end Go.Proofs.YtcmllllbmgcnlaaGreat.Rl
end
section
namespace Go.Proofs.YtcmllllbmgcnlaaGreat.Rl
open Go.RowKit Go.Lib Go.Shelf Go.Proofs.YtcmllllbmgcnlaaGreat.G Go.Proofs.YtcmllllbmgcnlaaGreat.Tup Go.Proofs.YtcmllllbmgcnlaaGreatW.PrintWords Go.Proofs.YtcmllllbmgcnlaaGreatW.PrintLast Go.Proofs.YtcmllllbmgcnlaaGreatW.PrintMore
set_option linter.unusedVariables false
set_option linter.unusedSimpArgs false
theorem notedL_all {R : List Row} {xs : List Tp} (h : ∀ t, t ∈ xs ↔ t ∈ keys R) : notedL R xs = R := by
 unfold notedL
 rw [List.filter_eq_self]
 exact fun x hx => decide_eq_true ((h x.1).2 (mem_keys hx))
theorem add0 (ad : Addr) : ad.add 0 = ad := by
 obtain ⟨b, o, x⟩ := ad
 cases x <;> simp [Addr.add]
def GaveT (a : Nat) (J Jx : Nat → List Row → World → Prop) (ys : List Row) (e : Ending) (W' : World) : Prop :=
 e = .returned (.tuple #[]) ∧ ∃ N, a ≤ N ∧ (J N ys W' ∨ ∃ pre, pre <+: ys ∧ Jx N pre W')
def GaveR (a : Nat) (J Jx : Nat → List Row → World → Prop) (ys : List Row) (e : Ending) (W' : World) : Prop :=
 (∃ v, e = .returned v) ∧ ∃ N, a ≤ N ∧ (J N ys W' ∨ ∃ pre, pre <+: ys ∧ Jx N pre W')
theorem btall_enters : ∀ args w, (callFunc 79 args).run Tryz.prog w = .ok (.enter 79 args) w := enters_of Tryz.func79 (by kernel_rfl) rfl
set_option maxHeartbeats 8000000 in
set_option maxRecDepth 100000 in
theorem rall_seq {ok : Nat → Prop} {w : World} {br wd : Nat} {os : List Tp} {R : List Row} {m : Nat} {bss : List Nat} (h : RelAt ok w br wd os R m bss) (Bs : Nat) (hBs : w.cell? ⟨Bs, 0, none⟩ = some (.pointer (some ⟨br, 0, none⟩))) :
  Seq2R Fence.wide Tryz.prog 54 #[.pointer (some ⟨Bs, 0, none⟩)] R w := by
 intro l J Jx W hW hJ hJx hR h0 n
 refine callsIn_wide.2 ?_
 show Calls Tryz.prog 54 #[.func (.yield l) #[] #[], .pointer (some ⟨Bs, 0, none⟩)] W (GaveR W.heap.size J Jx R)
 have hRW := h.below hW
 have hbW := pw_cell_below hW hBs
 obtain ⟨Ao, co, As, cs, hp, _, _, _, hFs⟩ := hRW.hp
 have h0c := (rec_of hp).c0
 have hpos := hRW.hos.pos
 have hb0 : 0 < bss.length := by rw [hRW.len]; exact hpos
 obtain ⟨As', c', rt, T, hS, hT⟩ := hRW.sets 0 hpos hb0
 obtain ⟨ad, rfl, hcell⟩ := nod_at (Kd.F_now hFs) 0 hb0
 obtain ⟨b0, hb0e⟩ : ∃ b, b = bss[0] := ⟨_, rfl⟩
 rw [← hb0e, add0] at hcell
 rw [← hb0e] at hS
 obtain ⟨on, hon⟩ : ∃ on, on = os.length := ⟨_, rfl⟩
 have honp : (0 : Int) < (on : Int) := by omega
 have hon1 : 0 < on := by omega
 have hond : decide (0 < on) = true := decide_eq_true hon1
 have h3 : W.cell? ⟨br, 3, none⟩ = some (.slice (some ad) on cs) := (rec_of hp).c3.trans (by rw [hon])
 have HKP := Aside0.mk (fun (w' : World) (hs : Since W w') => And.intro (pw_cell_below hs.b hbW) (And.intro (pw_cell_below hs.b h3) (And.intro (pw_cell_below hs.b hcell) hs)))
 have HN := Aside0.mk (fun (w2 : World) (Bq : Nat) (hs : Since W w2) (hq : w2.cell? ⟨Bq, 0, none⟩ = some (.pointer (some ⟨b0, 0, none⟩))) => show Calls Tryz.prog 48 #[.pointer (some ⟨br, 0, none⟩), .func (.func 79) #[] #[.pointer (some ⟨Bq, 0, none⟩)], .func (.yield l) #[] #[]] w2 (GaveT W.heap.size J Jx R) from by
  have hn := noted_in n (hRW.below hs.b) 79 #[.pointer (some ⟨Bq, 0, none⟩)] _ (fun k hk => hk.2) T.io (fun t ht => (hT t).1 ht) (up_nodup hS.up) hS.le (seqR_T (all_seq w2 Bq b0 (hS.since hs).bound (fun k hk => hk) hq)) btall_enters l W.heap.size hs.b.size J Jx hJ hJx (by rw [notedL_all hT]; exact hR) (fun W' hb => h0 W' (hs.step hb).b)
  rw [notedL_all hT] at hn
  exact callsIn_wide.1 hn)
 clear h hRW hp hFs hS hT hJ hJx hR h0 hb0 hb0e hpos hon hcell h3
 go_enter Tryz.func54, Tryz.ntmps54
 go_wp2_with (go_at_call 38; refine (rok_calls _ br h0c).mono ?_; rintro e w' ⟨rfl, rfl⟩)
 have d1 := HKP.out _ (Since.refl W).drew
 obtain ⟨e1, e2, e3, _⟩ := d1
 have d2 := HKP.out _ ((Since.refl W).alloc (.cells #[.pointer (some ⟨b0, 0, none⟩)] 99))
 obtain ⟨f1, f2, f3, _⟩ := d2
 go_region_with (first
   | (go_at_call 51; (refine (all_calls _ _ ⟨_, rfl⟩).mono ?_); rintro e w5 ⟨rfl, rfl⟩; have hs5 := (Since.refl W).drew.alloc (.cells #[.pointer (some ⟨b0, 0, none⟩)] 99))
   | (go_at_call 48; (refine (HN.out _ _ hs5 ((Tup.cell_of_heap (heap_alloc_new _ _) 0).trans rfl)).mono ?_); rintro e w9 ⟨rfl, hG9⟩; have HG9 := Aside0.mk hG9; clear hG9))
 all_goals go_end0
 all_goals exact ⟨⟨_, rfl⟩, HG9.out⟩
set_option maxHeartbeats 1000000 in
set_option maxRecDepth 100000 in
theorem rall_calls (W : World) (p : Value) (hp : ∃ a, p = .pointer a) : Calls Tryz.prog 25 #[p] W fun e w' => e = .returned (.func (.func 54) #[] #[.pointer (some ⟨W.heap.size, 0, none⟩)]) ∧ w' = W.alloc (.cells #[p] 24) := by
 obtain ⟨a, rfl⟩ := hp
 go_enter Tryz.func25, Tryz.ntmps25
 go_wp2
 go_ret
 exact ⟨rfl, rfl⟩
end Go.Proofs.YtcmllllbmgcnlaaGreat.Rl
end
