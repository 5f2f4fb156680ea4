/- Own texts, joined and cut to what the claim stands on: RlOpen, RlSeq, RlCmp, RlRound, RlColl. -/
import Derived.ProofKit
import Derived.Laws.Cover2
import Derived.OpenShut
import Derived.ChangeOld
import Derived.Lib.SmallJoins
import Derived.Laws.IdiomArrays
import Derived.Deep.Slices
import Derived.SizedLaws
import Derived.Deep.RegionHeld3
import Derived.OrdersIn
import Derived.Maps.AppendAt
import Derived.Test.YtcmllllbmgcnlaaGreatQ32
import Derived.Test.YtcmllllbmgcnlaaGreatQ33
import Derived.Test.YtcmllllbmgcnlaaGreatQ22
import Derived.Test.YtcmllllbmgcnlaaGreatQ21
import Derived.Test.YtcmllllbmgcnlaaGreatQ20
section
namespace Go.Proofs.YtcmllllbmgcnlaaGreat.Rl
open Go.ChangeShapes Go.WideShapes Go.ChangeAt Go.RowKit Go.Joins Go.Proofs.YtcmllllbmgcnlaaGreat.G Go.Proofs.YtcmllllbmgcnlaaGreat.Tup Go.Proofs.YtcmllllbmgcnlaaGreatW Go.Proofs.YtcmllllbmgcnlaaGreatW.PrintWords
set_option linter.unusedVariables false
set_option linter.unusedSimpArgs false
section
variable {H : Type} {enc : TypeId × Value → H} {W : World} {base b0 : Nat} {held : Bool}
set_option maxRecDepth 100000 in
theorem sl_of_trod {fuel : Nat} {a : Option Addr} {len cap : Nat} {y : DataW H × List MemPlace} (hf : DataW.trod enc Tryz.prog W base (fun _ => true) held fuel 23 [.slice a len cap] = some y) :
    ∃ l : List Int, len = l.length ∧ Sl W a cap l ∧ ∀ x ∈ l, (Lit.int .i64 x).wf = true := by
  have row : (a = none ∧ len = 0 ∧ cap = 0 ∧ ([] : List Int) = []) ∨ ∃ zs : List Int, ∃ x, a = some x ∧ len ≤ cap ∧ cap ≤ maxLen ∧ zs.length = cap ∧ (∀ i, i < zs.length → W.cell? (x.add i) = some (.int .i64 (zs.getD i 0))) ∧ ∀ n ∈ zs, (Lit.int .i64 n).wf = true := by
    rcases open_ints Tryz.underlying23 Tryz.underlying3 (by kernel_rfl) hf with ⟨hcs, _⟩ | ⟨x, l, c, zs, hcs, _, hl, hm, hz, _, hcell, hwz⟩
    · simp at hcs
      obtain ⟨rfl, rfl, rfl⟩ := hcs
      exact .inl ⟨rfl, rfl, rfl, rfl⟩
    · simp at hcs
      obtain ⟨rfl, rfl, rfl⟩ := hcs
      exact .inr ⟨zs, _, rfl, hl, hm, by simpa using hz, hcell, hwz⟩
  have row2 : ∃ zs : List Int, (a = none ∧ len = 0 ∧ cap = 0 ∧ zs = []) ∨ ∃ x, a = some x ∧ len ≤ cap ∧ cap ≤ maxLen ∧ zs.length = cap ∧ (∀ i, i < zs.length → W.cell? (x.add i) = some (.int .i64 (zs.getD i 0))) ∧ ∀ n ∈ zs, (Lit.int .i64 n).wf = true := by
    rcases row with h | ⟨zs, h⟩
    · exact ⟨[], .inl h⟩
    · exact ⟨zs, .inr h⟩
  obtain ⟨zs, h⟩ := row2
  obtain ⟨l, e, hr, hm, hw, hc⟩ := ReadsInt.ofRowC h
  subst e
  exact ⟨l, rfl, ⟨Kd.C_of_reads (d := (0 : Int)) (h1 := fun _ => rfl) hr, hc⟩, hw⟩
structure Rs (W : World) (A : Option Addr) (c : Nat) (ls : List Tp) : Prop where
  C : Kd.C KT W A ls.length ls
  le : ls.length ≤ c
  wf : ∀ t ∈ ls, ∀ x ∈ t, (Lit.int .i64 x).wf = true
set_option maxRecDepth 100000 in
theorem rows_of_trod {fuel : Nat} {a : Option Addr} {len cap : Nat} {y : DataW H × List MemPlace} (hf : DataW.trod enc Tryz.prog W base (fun _ => true) held fuel 44 [.slice a len cap] = some y) :
    ∃ ls : List Tp, len = ls.length ∧ Rs W a cap ls := by
  rcases Go.Deep.open_slice1 Tryz.underlying44 (by kernel_rfl) hf with ⟨hcs, _⟩ | ⟨a', l', c', m, n, V, D, Pl, hcs, _, hl, hm, hmm, _, hx⟩
  · simp at hcs
    obtain ⟨rfl, rfl, rfl⟩ := hcs
    exact ⟨[], rfl, Kd.C_nil KT W, Nat.le_refl _, by simp⟩
  · simp at hcs
    obtain ⟨rfl, rfl, rfl⟩ := hcs
    simp only [if_true] at hmm
    subst hmm
    have each : ∀ r, r < len → ∃ y : List Int, (∃ A c, V r = .slice A y.length c ∧ Sl W A c y) ∧ ∀ x ∈ y, (Lit.int .i64 x).wf = true := by
      intro r hr
      obtain ⟨_, h2⟩ := hx r (by omega)
      obtain ⟨A, l, c, e⟩ := slice_form Tryz.underlying23 h2
      simp only [List.cons.injEq, and_true] at e
      rw [e] at h2 ⊢
      obtain ⟨y, rfl, hs, hw⟩ := sl_of_trod h2
      exact ⟨y, ⟨A, c, rfl, hs⟩, hw⟩
    obtain ⟨f, hf'⟩ := Go.Deep.choose_lt each
    have hL : ((List.range len).map f).length = len := by simp
    refine ⟨(List.range len).map f, hL.symm, ⟨⟨by rw [hL], by rw [hL]; unfold maxLen at hm; omega, fun _ => ⟨a', rfl, fun j p hj => ?_⟩⟩, by rw [hL]; exact hl, fun t ht => ?_⟩⟩
    · have hjl : j < len := by have := (List.getElem?_eq_some_iff.1 hj).1; simpa using this
      rw [List.getElem?_map, List.getElem?_range hjl] at hj
      obtain rfl : f j = p := by simpa using hj
      obtain ⟨⟨A, c, e, hs⟩, _⟩ := hf' j hjl
      refine ⟨[V j], rfl, ⟨A, c, by rw [e], hs.le, hs.C⟩, fun i u hu => ?_⟩
      cases i with
      | zero =>
        simp at hu
        subst hu
        have := (hx j (by omega)).1
        rw [show j * Kd.sz KT + 0 = j from by show j * 1 + 0 = j; omega]
        exact this
      | succ i => simp at hu
    · obtain ⟨j, hj, rfl⟩ := List.mem_map.1 ht
      exact (hf' j (List.mem_range.1 hj)).2
theorem weights_all {P : Program} {e : TypeId} {d : DataW H} : ∀ {l : List (DataW H)}, d ∈ l → ∀ x ∈ d.weights P e, x ∈ DataW.weightsAll P e l := by
  intro l
  induction l with
  | nil => intro h; simp at h
  | cons a l ih =>
    intro h x hx
    rw [DataW.weightsAll]
    rcases List.mem_cons.1 h with rfl | h
    · exact List.mem_append.2 (.inl hx)
    · exact List.mem_append.2 (.inr (ih h x hx))
set_option maxRecDepth 100000 in
theorem sl_sized {fuel : Nat} {a : Option Addr} {len cap : Nat} {d : DataW H} {ps : List MemPlace} (hf : DataW.trod enc Tryz.prog W base (fun _ => true) held fuel 23 [.slice a len cap] = some (d, ps)) (hz : ∀ x ∈ d.weights Tryz.prog 23, x ≤ reachBytes) : len * 8 ≤ 140737488351232 := by
  have hsz : (DataW.weightsEach Tryz.prog [23] [d]).all (· ≤ reachBytes) = true := by
    rw [List.all_eq_true]
    intro x hx
    simp [DataW.weightsEach] at hx
    exact decide_eq_true (hz x hx)
  exact PrintWords.sized_ints hsz (j := 0) (t := 23) rfl rfl Tryz.underlying23 Tryz.underlying3 (by kernel_rfl) (by kernel_rfl) ⟨fuel, hf⟩
set_option maxRecDepth 100000 in
theorem rows_sized {fuel : Nat} {a : Option Addr} {len cap : Nat} {d : DataW H} {ps : List MemPlace} (hf : DataW.trod enc Tryz.prog W base (fun _ => true) held fuel 44 [.slice a len cap] = some (d, ps)) (hz : ∀ x ∈ d.weights Tryz.prog 44, x ≤ reachBytes) {ls : List Tp} (hr : Rs W a cap ls) (hl : len = ls.length) : ∀ t ∈ ls, t.length * 8 ≤ 140737488351232 := by
  intro t ht
  obtain ⟨i, hi, rfl⟩ := List.getElem_of_mem ht
  obtain ⟨ad, A, c, e, hc, sl⟩ := tup_at hr.C i hi
  rcases Go.Deep.open_slice1 Tryz.underlying44 (by kernel_rfl) hf with ⟨hcs, _⟩ | ⟨a', l', c', m, n, V, D, Pl, hcs, _, hl', hm, hmm, hd, hx⟩
  · simp at hcs
    omega
  · simp at hcs
    obtain ⟨rfl, rfl, rfl⟩ := hcs
    simp only [if_true] at hmm
    subst hmm
    injection e with e
    subst e
    obtain ⟨h1, h2⟩ := hx i (by omega)
    rw [hc] at h1
    injection h1 with h1
    rw [← h1] at h2
    have hd' : d = .slice ((List.range len).map D) ((List.range (m - len)).map fun j => D (len + j)) := by
      injection hd
    refine sl_sized h2 fun x hx => hz x ?_
    rw [hd', DataW.weights, Tryz.underlying44]
    refine List.mem_cons.2 (.inr (List.mem_append.2 (.inl (weights_all (List.mem_map.2 ⟨i, List.mem_range.2 (by omega), rfl⟩) x hx))))
set_option maxRecDepth 100000 in
theorem rows_len {ts : List TypeId} {ds : List (DataW H)} {j fuel : Nat} {a : Option Addr} {len cap : Nat} {d : DataW H} {ps : List MemPlace} {ls : List Tp} (hsz : (DataW.weightsEach Tryz.prog ts ds).all (· ≤ reachBytes) = true) (ht : ts[j]? = some 44) (hd : ds[j]? = some d) (hf : DataW.trod enc Tryz.prog W base (fun _ => true) held fuel 44 [.slice a len cap] = some (d, ps)) (hl : len = ls.length) : ls.length * 24 ≤ 140737488351232 := by
  rcases Go.Deep.open_slice1 Tryz.underlying44 (by kernel_rfl) hf with ⟨hcs, _⟩ | ⟨a', l', c', m, n, V, D, Pl, hcs, _, hl', hm, hmm, he, hx⟩
  · simp at hcs
    omega
  · simp at hcs
    obtain ⟨rfl, rfl, rfl⟩ := hcs
    have hd' : d = .slice ((List.range len).map D) ((List.range (m - len)).map fun j => D (len + j)) := by
      injection he
    rw [hd'] at hd
    have z := sized_slice hsz ht hd Tryz.underlying44
    have hb : Tryz.prog.bytesOf 23 = 24 := by kernel_rfl
    rw [hb] at z
    simp only [List.length_map, List.length_range] at z
    have hR : reachBytes = 140737488351232 := by kernel_rfl
    omega
set_option maxRecDepth 100000 in
theorem open_rowsZ {v : Value} {d : DataW H} {p : List MemPlace} {ts : List TypeId} {ds : List (DataW H)} {j : Nat} (hsz : (DataW.weightsEach Tryz.prog ts ds).all (· ≤ reachBytes) = true) (ht : ts[j]? = some 44) (hd : ds[j]? = some d) (hv : Value.okWide Tryz.prog W .any b0 44 v) (h : DataW.Trod enc Tryz.prog W base (fun _ => true) held 44 v d p) :
    ∃ A c ls, v = .slice A ls.length c ∧ Rs W A c ls ∧ (∀ t ∈ ls, t.length * 8 ≤ 140737488351232) ∧ ls.length * 24 ≤ 140737488351232 := by
  obtain ⟨a, len, cap, rfl⟩ := okWide_slice Tryz.underlying44 hv
  obtain ⟨fuel, hf⟩ := h
  obtain ⟨ls, hl, hs⟩ := rows_of_trod hf
  refine ⟨a, cap, ls, by rw [hl], hs, rows_sized hf (fun x hx => ?_) hs hl, rows_len hsz ht hd hf hl⟩
  exact of_decide_eq_true ((List.all_eq_true.1 hsz) x (DataW.weights_mem_each ht hd x hx))
end
end Go.Proofs.YtcmllllbmgcnlaaGreat.Rl
end
section
namespace Go.Proofs.YtcmllllbmgcnlaaGreat.Rl
open Go.RowKit Go.Lib Go.Shelf Go.Proofs.YtcmllllbmgcnlaaGreat.G Go.Proofs.YtcmllllbmgcnlaaGreat.Tup Go.Proofs.YtcmllllbmgcnlaaGreatW.PrintWords Go.Proofs.YtcmllllbmgcnlaaGreatW.PrintLast Go.Proofs.YtcmllllbmgcnlaaGreatW.PrintMore
set_option linter.unusedVariables false
set_option linter.unusedSimpArgs false
def Given (a N : Nat) (W : World) (A : Option Addr) (c : Nat) (x : Tp) : Prop := W.ownsRow a 3 1 (.slice A x.length c) x.length (x.map (Value.int .i64)) ∧ ∀ k, (Value.slice A x.length c).ownBlock = some k → k < N
def PrivX (a N : Nat) (A : Option Addr) : Nat → Prop := fun k => a ≤ k ∧ k < N ∧ ∀ ad, A = some ad → k ≠ ad.block
def Rounds2 (F : Fence) (P : Program) (l : Nat) (J Jx : List Row → World → Prop) (a N : Nat) (xs : List Row) : Prop :=
  ∀ m pre x A c W1, J pre W1 → pre ++ [x] <+: xs → Given a N W1 A c x.1 → YieldAt F m P l #[.slice A x.1.length c, noteV x.2] W1 fun e W' => (e = .returned (.bool true) ∧ J (pre ++ [x]) W' ∧ KpF (PrivX a N A) W1 W') ∨ (e = .returned (.bool false) ∧ Jx (pre ++ [x]) W' ∧ KeepsFrom a W1 W')
def Seq2R (F : Fence) (P : Program) (gf : Nat) (lb : Array Value) (xs : List Row) (w : World) : Prop :=
  ∀ (l : Nat) (J Jx : Nat → List Row → World → Prop) (W : World), Below w.heap.size w W → (∀ N, W.heap.size ≤ N → OwnFrom W.heap.size (J N)) → (∀ N, W.heap.size ≤ N → OwnFrom W.heap.size (Jx N)) → (∀ N, W.heap.size ≤ N → Rounds2 F P l (J N) (Jx N) W.heap.size N xs) → (∀ W', Below W.heap.size W W' → J W'.heap.size [] W') →
    ∀ n, CallsIn F n P gf (#[.func (.yield l) #[] #[]] ++ lb) W fun e W' => (∃ v, e = .returned v) ∧ ∃ N, W.heap.size ≤ N ∧ (J N xs W' ∨ ∃ pre, pre <+: xs ∧ Jx N pre W')
theorem rounds_of2 {F : Fence} {n : Nat} (hd : F.depth = none) {P : Program} {B l : Nat} (hBl : B ≤ l) {fn : FuncId} {tm : Array Value} {ps : Array Tmp} {assign body : Code} {d : Nat} (hfn : F.fn fn) {a0 N0 : Nat} {xs : List Row} (hps : ps.size = 2) (I : List Row → World → Prop) (Ix : Code → List Row → World → Prop) (hI : OwnFrom B I) (hIx : ∀ c, OwnFrom B (Ix c)) (Dl : List Nat) (hD : ∀ D ∈ Dl, B ≤ D ∧ D ≠ l) (hla : l < a0) (hBa : B ≤ a0) (a₁ : Row → Option Addr → Nat → Act)
    (hassign : ∀ x A c W (K : Act → World → Prop), K (a₁ x A c) W → assign.wpIn (F.inRound l) n P (Exit.then K (fun _ _ _ => False)) { tmps := (ps.zip #[Value.slice A x.1.length c, noteV x.2]).foldl (fun t (p, v) => t.setIfInBounds p v) tm, defers := [] } W)
    (hbody : ∀ pre x A c W1, (∃ r, W1.heap[l]? = some (.loop r)) → pre ++ [x] <+: xs → Given a0 N0 W1 A c x.1 → I pre W1 → body.wpIn (F.inRound l) n P (ownPostG B (KpF (PrivX a0 N0 A)) I Ix (pre ++ [x]) W1) (a₁ x A c) W1) :
    Rounds2 F P l (fun pre W => I pre W ∧ W.heap[l]? = some (.loop (recOf fn tm ps assign body d .ready none)) ∧ Marks Dl W) (fun pre W => ∃ c, Ix c pre W ∧ W.heap[l]? = some (.loop (recOf fn tm ps assign body d .done (some c))) ∧ Marks Dl W) a0 N0 xs := by
  rintro m pre x A c W1 ⟨hi1, hl1, hk1⟩ hpre ⟨ho, hN⟩
  have hlt1 := (Array.getElem?_eq_some_iff.1 hl1).1
  refine yieldAny hd m ⟨fn, _, assign, body, run_yield hl1 (by simp [recOf, hps]), roundIn_of_wpIn hfn (hassign x A c W1 _ ⟨_, run_beginRound hl1 rfl, ?_⟩)⟩
  obtain ⟨ob, hob⟩ : ∃ ob, ob = Obj.loop { recOf fn tm ps assign body d .ready none with state := .busy } := ⟨_, rfl⟩
  rw [← hob]
  have hoo : Given a0 N0 (W1.putObj l ob) A c x.1 := ⟨own_move ho fun k hk => World.putObj_heap_other (fun e => by
    obtain ⟨cells, hc⟩ := own_typed ho k hk
    rw [e, hl1] at hc; cases hc), hN⟩
  have hl2 : (W1.putObj l ob).heap[l]? = some ob := World.putObj_heap_same hlt1
  have hk2 : Marks Dl (W1.putObj l ob) := fun D hD' => (World.putObj_heap_other (hD D hD').2).trans (hk1 D hD')
  refine wpIn_mono (hbody pre x A c (W1.putObj l ob) ⟨_, hl2.trans (by rw [hob])⟩ hpre hoo (hI.putObj _ hi1 hBl hl1 rfl)) ?_
  have hnl : ∀ k, PrivX a0 N0 A k → k ≠ l := fun k hk => by have := hk.1; omega
  have fin : ∀ (jump : Option Code) (W3 : World), KeepsFrom B (W1.putObj l ob) W3 → ∃ v W4, (Instr.endRound l jump).run P W3 = .ok v W4 ∧ v = .bool jump.isNone ∧ W4 = W3.putObj l (.loop (recOf fn tm ps assign body d (if jump.isNone then .ready else .done) jump)) ∧ W3.heap[l]? = some ob ∧ W4.heap[l]? = some (.loop (recOf fn tm ps assign body d (if jump.isNone then .ready else .done) jump)) ∧ Marks Dl W4 := by
    intro jump W3 hk3
    have hl3 : W3.heap[l]? = some ob := hk3.same l ob hBl hl2 (by rw [hob]; rfl)
    have hlt3 := (Array.getElem?_eq_some_iff.1 hl3).1
    refine ⟨_, _, run_endRound jump (hl3.trans (by rw [hob])), rfl, rfl, hl3, World.putObj_heap_same hlt3, fun D hD' => (World.putObj_heap_other (hD D hD').2).trans (hk3.same D _ (hD D hD').1 (hk2 D hD') rfl)⟩
  have stop : ∀ (cc : Code) (W3 : World), KeepsFrom B (W1.putObj l ob) W3 → Ix cc (pre ++ [x]) W3 → ∃ v W4, (Instr.endRound l (some cc)).run P W3 = .ok v W4 ∧ ((Ending.returned v = .returned (.bool true) ∧ (I (pre ++ [x]) W4 ∧ W4.heap[l]? = some (.loop (recOf fn tm ps assign body d .ready none)) ∧ Marks Dl W4) ∧ KpF (PrivX a0 N0 A) W1 W4) ∨ (Ending.returned v = .returned (.bool false) ∧ (∃ c', Ix c' (pre ++ [x]) W4 ∧ W4.heap[l]? = some (.loop (recOf fn tm ps assign body d .done (some c'))) ∧ Marks Dl W4) ∧ KeepsFrom a0 W1 W4)) := by
    intro cc W3 hk3 hx
    obtain ⟨v, W4, hr, rfl, rfl, hl3, hl4, hm4⟩ := fin (some cc) W3 hk3
    exact ⟨_, _, hr, .inr ⟨rfl, ⟨cc, (hIx cc).putObj _ hx hBl hl3 (by rw [hob]; rfl), hl4, hm4⟩, ⟨by have := hk3.size; simp at this ⊢; exact this, fun k o hk ho hc => (World.putObj_heap_other (by omega)).trans (hk3.same k o (by omega) ((World.putObj_heap_other (by omega)).trans ho) hc)⟩⟩⟩
  rintro e a3 W3 hp
  cases e with
  | normal =>
    obtain ⟨hk3, hkp3, hi3⟩ := hp
    obtain ⟨v, W4, hr, rfl, rfl, hl3, hl4, hm4⟩ := fin none W3 hk3
    refine ⟨_, _, hr, .inl ⟨rfl, ⟨hI.putObj _ hi3 hBl hl3 (by rw [hob]; rfl), hl4, hm4⟩, ?_⟩⟩
    have q1 : KpF (PrivX a0 N0 A) W1 (W1.putObj l ob) := ⟨by simp, fun k hk _ => World.putObj_heap_other (hnl k hk)⟩
    exact (q1.trans hkp3).trans ⟨by simp, fun k hk _ => World.putObj_heap_other (hnl k hk)⟩
  | ret => exact stop .ret W3 hp.1 hp.2
  | exit id => exact stop (.exit id) W3 hp.1 hp.2
  | goto t => exact stop (.goto t) W3 hp.1 hp.2
  | panic ch => exact hp.elim
  | outgrown => exact hp.elim
theorem range2_outer {F : Fence} {n : Nat} {P : Program} {g : Operand} {ps : Array Tmp} {assign body : Code} {Q : Exit → Act → World → Prop} {a : Act} {w : World} (hd : F.depth = none) (hro : F.round = none)
    {gf : Nat} {lb : Array Value} (hg : a.eval g = .func (.func gf) #[] lb) (hFg : F.fn gf) (eg : ∀ args w, (callFunc gf args).run P w = .ok (.enter gf args) w)
    {xs : List Row} (hseq : Seq2R F P gf lb xs w) (hps : ps.size = 2)
    (I : Nat → List Row → World → Prop) (Ix : Nat → Code → List Row → World → Prop) (hI : ∀ N, w.heap.size + 2 ≤ N → OwnFrom w.heap.size (I N)) (hIx : ∀ N c, w.heap.size + 2 ≤ N → OwnFrom w.heap.size (Ix N c)) (h0 : ∀ W', Below w.heap.size w W' → w.heap.size + 2 ≤ W'.heap.size → I W'.heap.size [] W') (a₁ : Row → Option Addr → Nat → Act)
    (hassign : ∀ l x A c W (K : Act → World → Prop), K (a₁ x A c) W → assign.wpIn (F.inRound l) n P (Exit.then K (fun _ _ _ => False)) { tmps := (ps.zip #[Value.slice A x.1.length c, noteV x.2]).foldl (fun t (p, v) => t.setIfInBounds p v) a.tmps, defers := [] } W)
    (hbody : ∀ N l pre x A c W1, w.heap.size + 2 ≤ N → w.heap.size ≤ l → (∃ r, W1.heap[l]? = some (.loop r)) → pre ++ [x] <+: xs → Given (w.heap.size + 2) N W1 A c x.1 → I N pre W1 → body.wpIn (F.inRound l) n P (ownPostG w.heap.size (KpF (PrivX (w.heap.size + 2) N A)) (I N) (Ix N) (pre ++ [x]) W1) (a₁ x A c) W1)
    (hdone : ∀ (N D : Nat) (W : World), w.heap.size + 2 ≤ N → w.heap.size ≤ D → I N xs W → W.heap[D]? = some (.deferred (some [])) → Q .normal { a with defers := { target := .collected D, args := #[] } :: a.defers } W)
    (hstop : ∀ (N D : Nat) (c : Code) (pre : List Row) (W : World), w.heap.size + 2 ≤ N → w.heap.size ≤ D → pre <+: xs → Ix N c pre W → W.heap[D]? = some (.deferred (some [])) → c.wpIn F n P Q { a with defers := { target := .collected D, args := #[] } :: a.defers } W) :
    (Code.rangeFunc g ps assign body).wpIn F n P Q a w := by
  refine wpIn_rangeFunc ?_
  intro fn hfn
  rw [hro]
  obtain ⟨W1, hW1⟩ : ∃ W1, (w.alloc (.deferred (some []))).alloc (.loop (recOf fn a.tmps ps assign body w.heap.size .ready none)) = W1 := ⟨_, rfl⟩
  have hL1 : W1.heap[w.heap.size + 1]? = some (.loop (recOf fn a.tmps ps assign body w.heap.size .ready none)) := by
    rw [← hW1]; have := World.alloc_heap_new (w.alloc (.deferred (some []))) (.loop (recOf fn a.tmps ps assign body w.heap.size .ready none)); rwa [World.size_alloc] at this
  have hK1 : W1.heap[w.heap.size]? = some (.deferred (some [])) := by
    rw [← hW1]; exact (Below.heap_alloc _ _ _ (by simp)).trans (World.alloc_heap_new w _)
  have hb1 : Below w.heap.size w W1 := by rw [← hW1]; exact below_alloc (below_alloc (Below.refl _ _) _) _
  have hw1 : W1.heap.size = w.heap.size + 2 := by rw [← hW1]; simp
  refine ⟨w.heap.size + 1, [{ target := .collected w.heap.size, args := #[] }], W1, { target := .fn (.func gf) lb, args := #[.func (.yield (w.heap.size + 1)) #[] #[]] }, W1, gf,
    #[.func (.yield (w.heap.size + 1)) #[] #[]] ++ lb, W1, ?_, ?_, ?_, ?_, (fun h => by rw [hd] at h; cases h), ?_⟩
  · rw [← hW1]; exact run_enterLoop_outer _ _ _ _ _
  · simp only [resolve, hg]
    simp [go_sem]
  · intro f' hf'; simp [Target.leads] at hf'; subst hf'; exact hFg
  · simp [invoke, go_sem, eg]
  · have hR : ∀ N, W1.heap.size ≤ N → _ := fun N hN => rounds_of2 (n := n) (P := P) (B := w.heap.size) (l := w.heap.size + 1) (d := w.heap.size) (tm := a.tmps) (ps := ps) (assign := assign) (body := body) hd (by omega) hfn (a0 := w.heap.size + 2) (N0 := N) hps (I N) (Ix N) (hI N (by omega)) (fun c => hIx N c (by omega)) [w.heap.size] (fun D hD => by simp at hD; subst hD; omega) (by omega) (by omega) a₁ (hassign _) (fun pre x A c W1 => hbody N _ pre x A c W1 (by omega) (by omega))
    have keep : ∀ {A B : World} {row : Option Nat} (k : Nat) (o : Obj), A.grownBy B row → (∀ r, row = some r → W1.heap.size ≤ r ∧ ∃ o : Obj, A.heap[r]? = some o ∧ o.isCells = false) → A.heap[k]? = some o → k < W1.heap.size → B.heap[k]? = some o := fun k o hg hr hk hlt =>
      (hg.block k (Array.getElem?_eq_some_iff.1 hk).1 (fun e => by have := (hr k e.symm).1; omega)).trans hk
    have hnw : ∀ {A : World} {row : Option Nat}, (∀ r, row = some r → W1.heap.size ≤ r ∧ ∃ o : Obj, A.heap[r]? = some o ∧ o.isCells = false) → (∀ r, row = some r → w.heap.size ≤ r ∧ ∃ o : Obj, A.heap[r]? = some o ∧ o.isCells = false) :=
      fun hr r e => by obtain ⟨hB, o, ho, hw⟩ := hr r e; exact ⟨by omega, o, ho, hw⟩
    rw [← hw1] at hR
    refine (hseq (w.heap.size + 1) (fun N pre W => I N pre W ∧ W.heap[w.heap.size + 1]? = some (.loop (recOf fn a.tmps ps assign body w.heap.size .ready none)) ∧ Marks [w.heap.size] W) (fun N pre W => ∃ c, Ix N c pre W ∧ W.heap[w.heap.size + 1]? = some (.loop (recOf fn a.tmps ps assign body w.heap.size .done (some c))) ∧ Marks [w.heap.size] W) W1 hb1
      (fun N hN s A B row hs hg' hr => ⟨hI N (by omega) s A B row hs.1 hg' (hnw hr), keep _ _ hg' hr hs.2.1 (by omega), fun D hD => keep _ _ hg' hr (hs.2.2 D hD) (by simp at hD; omega)⟩)
      (fun N hN s A B row hs hg' hr => by
        obtain ⟨c, hc, hl, hk⟩ := hs
        exact ⟨c, hIx N c (by omega) s A B row hc hg' (hnw hr), keep _ _ hg' hr hl (by omega), fun D hD => keep _ _ hg' hr (hk D hD) (by simp at hD; omega)⟩) hR
      (fun W' hW' => ⟨h0 W' (below_then hb1 hb1.size hW') (by have := hW'.size; omega), blk hW' hL1, fun D hD => by simp at hD; subst hD; exact blk hW' hK1⟩) (n - 1)).mono ?_
    rintro e W2 ⟨⟨v, rfl⟩, N, hN, (⟨hi, hl, hk⟩ | ⟨pre, hpre, c, hi, hl, hk⟩)⟩
    · exact ⟨none, _, run_endLoop hl (by simp [recOf]), hdone N _ _ (by omega) (Nat.le_refl _) ((hI N (by omega)).putObj _ hi (by omega) hl rfl) ((World.putObj_heap_other (by omega)).trans (hk _ (by simp)))⟩
    · exact ⟨some c, _, run_endLoop hl (by simp [recOf]), hstop N _ c pre _ (by omega) (Nat.le_refl _) hpre ((hIx N c (by omega)).putObj _ hi (by omega) hl rfl) ((World.putObj_heap_other (by omega)).trans (hk _ (by simp)))⟩
end Go.Proofs.YtcmllllbmgcnlaaGreat.Rl
end
section
namespace Go.Proofs.YtcmllllbmgcnlaaGreat.Rl
open Go.RowKit Go.Lib Go.Deep Go.Proofs.YtcmllllbmgcnlaaGreat.G Go.Proofs.YtcmllllbmgcnlaaGreat.Tup Go.Proofs.YtcmllllbmgcnlaaGreatW.PrintWords Go.Proofs.YtcmllllbmgcnlaaGreatW.PrintLast Go.Proofs.YtcmllllbmgcnlaaGreatW.PrintMore
set_option linter.unusedVariables false
set_option linter.unusedSimpArgs false
theorem plainO_drop {n i : Nat} (h : i < n) : (plainO n).drop i = (i : Int) :: (plainO n).drop (i + 1) := by
  rw [List.drop_eq_getElem_cons (by rw [plainO_len]; exact h)]
  simp [plainO]
theorem plainO_end (n : Nat) : (plainO n).drop n = [] := List.drop_eq_nil_of_le (by rw [plainO_len]; omega)
set_option maxHeartbeats 4000000 in
set_option maxRecDepth 100000 in
theorem compare_calls (W : World) (n : Nat) (A : Option Addr) (c : Nat) (t : Tp) (B : Option Addr) (d : Nat) (s : Tp) (ht : Sl W A c t) (hs : Sl W B d s) (hlt : t.length = n) (hls : s.length = n) (hn : n ≤ 1000) :
    Calls Tryz.prog 73 #[.slice A n c, .slice B n d] W fun e w' => e = .returned (.int .i64 (cmpL (plainO n) t s)) ∧ Drawn0 W w' := by
  have H1 := Aside0.mk ht
  have H2 := Aside0.mk hs
  have L1 := Aside0.mk hlt
  have L2 := Aside0.mk hls
  have HI := Aside0.mk (fun (k : Nat) (h : k < n) => And.intro (IntWalk.i64_in ((k : Int) + 1) (by omega)) (show (0 : Int) ≤ (k : Int) from by omega))
  obtain ⟨r, hr⟩ : ∃ r, r = cmpL (plainO n) t s := ⟨_, rfl⟩
  rw [← hr]
  have HR := Aside0.mk hr
  clear ht hs hlt hls hr
  go_enter Tryz.func73, Tryz.ntmps73
  go_wp2
  go_loopg [11] n (fun gk v11 wr => ∃ k : Nat, v11 = .int .i64 (k : Int) ∧ Aside0 (k + gk = n) ∧ Aside0 (Drawn0 W wr) ∧ Aside0 (r = cmpL ((plainO n).drop k) t s))
  case atStart => exact ⟨0, rfl, ⟨by omega⟩, ⟨⟨0, rfl⟩⟩, ⟨HR.out⟩⟩
  case round =>
    obtain ⟨k, rfl, HK, HD, HQ⟩ := hrel
    obtain ⟨m, rfl⟩ := HD.out
    by_cases hk : k < n
    · have hkd : decide (k < n) = true := decide_eq_true hk
      have hki : (k : Int) < (n : Int) := by omega
      have hkn : ¬ (n : Int) ≤ (k : Int) := by omega
      obtain ⟨ad, rfl, c1⟩ := Kd.at_int (Kd.C_drewN H1.out.C m) (k : Int) (by omega) (by rw [L1.out]; omega)
      obtain ⟨bd, rfl, c2⟩ := Kd.at_int (Kd.C_drewN H2.out.C m) (k : Int) (by omega) (by rw [L2.out]; omega)
      rw [show ((k : Int)).toNat = k from by omega] at c1 c2
      obtain ⟨x, hx⟩ : ∃ x, x = rd t (k : Int) := ⟨_, rfl⟩
      obtain ⟨y, hy⟩ : ∃ y, y = rd s (k : Int) := ⟨_, rfl⟩
      rw [← hx] at c1
      rw [← hy] at c2
      have HC := Aside0.mk (fun w => cmp_Compare_int.calls x y _ w (compare_is x y))
      have HS := Aside0.mk (show r = if x < y then -1 else if x > y then 1 else cmpL ((plainO n).drop (k + 1)) t s from by rw [hx, hy, HQ.out, plainO_drop hk]; rfl)
      clear hx hy
      by_cases h1 : x < y
      · have HC1 : Aside0 (∀ w, Calls Tryz.prog 96 #[.int .i64 x, .int .i64 y] w fun e w' => e = .returned (.int .i64 (-1)) ∧ Drawn0 w w') := ⟨fun w => by have := HC.out w; rwa [if_pos h1] at this⟩
        have HS1 := Aside0.mk (HS.out.trans (if_pos h1))
        clear h1 HC HS
        go_wp2_with (go_at_call 96; (with_reducible refine (HC1.out _).mono ?_); rintro e w1 ⟨rfl, ⟨m1, rfl⟩⟩)
        go_ret
        exact ⟨by rw [HS1.out]; rfl, ⟨m + m1, by first | rfl | simp [World.drewN, Nat.add_assoc]⟩⟩
      · by_cases h2 : x > y
        · have HC1 : Aside0 (∀ w, Calls Tryz.prog 96 #[.int .i64 x, .int .i64 y] w fun e w' => e = .returned (.int .i64 1) ∧ Drawn0 w w') := ⟨fun w => by have := HC.out w; rwa [if_neg h1, if_pos h2] at this⟩
          have HS1 := Aside0.mk (HS.out.trans ((if_neg h1).trans (if_pos h2)))
          clear h1 h2 HC HS
          go_wp2_with (go_at_call 96; (with_reducible refine (HC1.out _).mono ?_); rintro e w1 ⟨rfl, ⟨m1, rfl⟩⟩)
          go_ret
          exact ⟨by rw [HS1.out]; rfl, ⟨m + m1, by first | rfl | simp [World.drewN, Nat.add_assoc]⟩⟩
        · have HC1 : Aside0 (∀ w, Calls Tryz.prog 96 #[.int .i64 x, .int .i64 y] w fun e w' => e = .returned (.int .i64 0) ∧ Drawn0 w w') := ⟨fun w => by have := HC.out w; rwa [if_neg h1, if_neg h2] at this⟩
          have HS1 := Aside0.mk (HS.out.trans ((if_neg h1).trans (if_neg h2)))
          clear h1 h2 HC HS
          go_wp2_with (go_at_call 96; (with_reducible refine (HC1.out _).mono ?_); rintro e w1 ⟨rfl, ⟨m1, rfl⟩⟩)
          obtain ⟨g2, hg2⟩ : ∃ g2, g2 = gk - 1 := ⟨_, rfl⟩
          go_roundg g2
          case measure => have := HK.out; omega
          case rel => exact ⟨k + 1, by go_num, ⟨by have := HK.out; omega⟩, ⟨⟨m + m1, by simp⟩⟩, HS1⟩
    · have hkd : decide (k < n) = false := decide_eq_false hk
      have hki : ¬ (k : Int) < (n : Int) := by omega
      have hnn : ¬ (n : Int) < (n : Int) := by omega
      have HS1 : Aside0 (r = 0) := ⟨by
        have : k = n := by have := HK.out; omega
        rw [HQ.out, this, plainO_end]; rfl⟩
      go_wp2
      go_ret
      exact ⟨by rw [HS1.out]; rfl, ⟨m, rfl⟩⟩
end Go.Proofs.YtcmllllbmgcnlaaGreat.Rl
end
section
namespace Go.Proofs.YtcmllllbmgcnlaaGreat.Rl
open Go.RowKit Go.Lib Go.Shelf Go.Proofs.YtcmllllbmgcnlaaGreat.G Go.Proofs.YtcmllllbmgcnlaaGreat.Tup Go.Proofs.YtcmllllbmgcnlaaGreatW.PrintWords Go.Proofs.YtcmllllbmgcnlaaGreatW.PrintLast Go.Proofs.YtcmllllbmgcnlaaGreatW.PrintMore
set_option linter.unusedVariables false
set_option linter.unusedSimpArgs false
theorem op_round {P : Program} {ops : Array Oper} {Q : Exit → Act → World → Prop} {l n : Nat} (hL : ¬ LetsOut Q) {i : Nat} (hd : ∀ o, ops[i]? = some o → ∀ c, o.op ≠ .defer c) {K K' : Act → World → Prop} {a : Act} {w : World} (h : wpOp P ops Q i K a w) (hK : ∀ a w, K a w → K' a w) : wpOpIn (Fence.wide.inRound l) n P ops Q i K' a w := by
  unfold wpOp at h
  unfold wpOpIn
  cases ho : ops[i]? with
  | none => rw [ho] at h; exact hK _ _ h
  | some o =>
    rw [ho] at h
    dsimp only at h ⊢
    split
    · rename_i hw
      rw [if_pos hw] at h
      rcases h with h | h
      · refine ⟨fun f _ => trivial, ?_⟩
        rw [Oper.semAt_eq _ _ _ (hd o ho)]
        unfold Oper.wp at h
        generalize (execOp a.eval o).run P w = r at h ⊢
        cases r with
        | ok x w' =>
          cases x <;> simp only [Oper.upon, Oper.uponIn] at h ⊢
          case value u => exact hK _ _ h
          case skip => exact hK _ _ h
          case defer d => exact hK _ _ h
          case enter f args =>
            refine ⟨(fun h => Bool.noConfusion h), (callsIn_wide (n := n - 1)).2 (h.mono fun e w'' he => ?_)⟩
            cases e with
            | returned v => exact hK _ _ he
            | panicked c => exact he
            | outgrown => exact he
          case row row args => exact ⟨(fun h => Bool.noConfusion h), fun c cs _ => let ⟨v, w', r, s⟩ := h c cs; ⟨v, w', hK _ _ r, stepsIn_wide.2 s⟩⟩
        | halt x w' =>
          cases x <;> simp only [Oper.upon, Oper.uponIn] at h ⊢
          case panic u => exact h
      · exact absurd h.2 hL
    · rename_i hw
      rw [if_neg hw] at h
      exact ⟨fun f _ => trivial, hK _ _ h⟩
theorem any_round {P : Program} {md : Region.Mode} {ops : Array Oper} {Q : Exit → Act → World → Prop} {l n : Nat} (hL : ¬ LetsOut Q) (hd : ∀ (i : Nat) (o : Oper), ops[i]? = some o → ∀ c, o.op ≠ Op.defer c) : ∀ (fuel : Nat) (listed : Array Bool) (a : Act) (w : World), wpAny P md ops Q fuel listed a w → wpAnyIn (Fence.wide.inRound l) n P md ops Q fuel listed a w
  | 0, _, _, _, h => h
  | fuel + 1, listed, a, w, h => ⟨h.1, fun i hi => op_round hL (hd i) (h.2 i hi) fun a w h => any_round hL hd fuel _ a w h⟩
def noDefer (o : Oper) : Bool := match o.op with
  | .defer _ => false
  | _ => true
theorem region_round {P : Program} {S : World → Prop} {ops : Array Oper} {id : Nat} {Q : Exit → Act → World → Prop} {a : Act} {w : World} {l n : Nat} (hm : P.follows .mixedOrders = true) (hd : ops.all noDefer = true) (hL : ¬ LetsOut Q) (hS : S w.drew) (h : S w.drew → wpAnyH P .any ops Q S ops.size (Array.replicate ops.size false) a w.drew) : (Code.region id ops true).wpIn (Fence.wide.inRound l) n P Q a w :=
  wpIn_region_any hm (any_round hL (fun i o ho c e => by
    have h1 := Array.all_eq_true.1 hd i (Array.getElem?_eq_some_iff.1 ho).1
    rw [(Array.getElem?_eq_some_iff.1 ho).2] at h1
    simp [noDefer, e] at h1) _ _ _ _ (wpAny_of_held _ _ _ _ (h hS)))
end Go.Proofs.YtcmllllbmgcnlaaGreat.Rl
end
section
namespace Go.Proofs.YtcmllllbmgcnlaaGreat.Rl
open Go.RowKit Go.Lib Go.Shelf Go.Proofs.YtcmllllbmgcnlaaGreat.G Go.Proofs.YtcmllllbmgcnlaaGreat.Tup Go.Proofs.YtcmllllbmgcnlaaGreatW.PrintWords Go.Proofs.YtcmllllbmgcnlaaGreatW.PrintLast Go.Proofs.YtcmllllbmgcnlaaGreatW.PrintMore
set_option linter.unusedVariables false
set_option linter.unusedSimpArgs false
attribute [local go_sem] Oper.semAt_some
structure Elt where
  A : Option Addr
  c : Nat
  t : Tp
  n : Int × Int
def Elt.v (e : Elt) : Value := .slice e.A e.t.length e.c
def Elt.enc (e : Elt) : List Value := [e.v, noteV e.n]
def Elt.At (e : Elt) (W : World) (base : Nat) : Prop := W.ownsRow base 3 1 e.v e.t.length (e.t.map (Value.int .i64))
def Elt.ne (e f : Elt) : Prop := ∀ k, e.v.ownBlock = some k → f.v.ownBlock ≠ some k
def CollI (w : World) (B Br br : Nat) (R : List Row) (N : Nat) (pre : List Tp) (W : World) : Prop :=
  ∃ (A : Option Addr) (c : Nat) (es : List Elt), Boxed W B 137 (.slice A pre.length c) ∧ Boxed W Br 24 (.pointer (some ⟨br, 0, none⟩)) ∧ N ≤ W.heap.size ∧ W.ownsRow N 139 2 (.slice A pre.length c) pre.length (es.flatMap Elt.enc) ∧ es.map Elt.t = pre ∧ (∀ e ∈ es, lookF R e.t = some e.n) ∧ (∀ e ∈ es, e.At W w.heap.size) ∧ es.Pairwise Elt.ne ∧ Below w.heap.size w W
theorem infoR : (Tryz.prog.info? 139).map (fun i => (i.zero, i.size, i.bytes)) = some (some (.agg #[.slice none 0 0, .complex .f64 0 0]), 2, 40) := by kernel_rfl
theorem flat_v : ∀ (es es0 : List Elt), es.flatMap Elt.enc = es0.flatMap Elt.enc → es.map Elt.v = es0.map Elt.v
  | [], [], _ => rfl
  | [], e :: es, h => by simp [Elt.enc] at h
  | e :: es, [], h => by simp [Elt.enc] at h
  | e :: es, f :: fs, h => by
    simp only [List.flatMap_cons, Elt.enc, List.cons_append, List.nil_append, List.cons.injEq] at h
    rw [List.map_cons, List.map_cons, h.1, flat_v es fs h.2.2]
theorem Elt.At.isInts {e : Elt} {W : World} {b : Nat} (h : e.At W b) : ∀ k, e.v.ownBlock = some k → IsInts W k := fun k hk => by
  obtain ⟨cells, hc⟩ := own_typed h k hk
  exact ⟨_, _, hc⟩
theorem Elt.At.move {e : Elt} {W W1 : World} {b : Nat} (h : e.At W b) (hm : ∀ k, IsInts W k → W1.heap[k]? = W.heap[k]?) : e.At W1 b := own_move h fun k hk => hm k (h.isInts k hk)
theorem collI_own (w : World) (B Br br : Nat) (R : List Row) (N M : Nat) (hB : w.heap.size ≤ M) : OwnFrom M (CollI w B Br br R N) := by
  rintro pre X Y row ⟨A, c, es, hb, hbr, hNX, ho, ht, hl, ha, hp, hB0⟩ hg hr
  have hr' : ∀ r, row = some r → ∃ o : Obj, X.heap[r]? = some o ∧ o.isCells = false := fun r e => (hr r e).2
  refine ⟨A, c, es, (isCells_kept ⟨_, hb, rfl⟩ hg hr').1.trans hb, (isCells_kept ⟨_, hbr, rfl⟩ hg hr').1.trans hbr, Nat.le_trans hNX hg.size, own_move ho fun k hk => ?_, ht, hl, fun e he => (ha e he).move fun k hk => (isCells_kept hk.cells hg hr').1, hp, hB0.grown hg hB0.size (fun k e => by have := (hr k e).1; omega)⟩
  obtain ⟨cells, hc⟩ := own_typed ho k hk
  exact (isCells_kept ⟨_, hc, rfl⟩ hg hr').1
theorem coll_lt {W0 W1 : World} {N0 N1 n : Nat} {A : Option Addr} {c : Nat} {es es0 : List Elt} {base : Nat} (h0 : W0.ownsRow N0 139 2 (.slice A n c) n (es0.flatMap Elt.enc)) (h1 : W1.ownsRow N1 139 2 (.slice A n c) n (es.flatMap Elt.enc)) (hb : Below W0.heap.size W0 W1) (ha : ∀ e ∈ es0, e.At W0 base) : ∀ e ∈ es, ∀ k, e.v.ownBlock = some k → k < W0.heap.size := by
  have hE : es.flatMap Elt.enc = es0.flatMap Elt.enc := by
    have hl0 := h0.1
    have hl1 := h1.1
    rcases h0.2 with ⟨e0, hn⟩ | ⟨g, cap, cur, e0, hbg, hg, _, _, _, htk⟩
    · subst hn
      rw [List.length_eq_zero_iff.1 (show (es.flatMap Elt.enc).length = 0 by omega), List.length_eq_zero_iff.1 (show (es0.flatMap Elt.enc).length = 0 by omega)]
    · rcases h1.2 with ⟨e1, hn⟩ | ⟨g1, cap1, cur1, e1, hbg1, hg1, _, _, _, htk1⟩
      · subst hn
        rw [List.length_eq_zero_iff.1 (show (es.flatMap Elt.enc).length = 0 by omega), List.length_eq_zero_iff.1 (show (es0.flatMap Elt.enc).length = 0 by omega)]
      · rw [e0] at e1
        injection e1 with e1 _ e2
        injection e1 with e1
        injection e1 with e1 _ _
        subst e1
        have := (hb.block g (Array.getElem?_eq_some_iff.1 hg).1).trans hg
        rw [hg1] at this
        injection this with this
        injection this with h3 _ _
        rw [← htk1, ← htk, h3]
  intro e he k hk
  have hv := flat_v _ _ hE
  have : e.v ∈ es0.map Elt.v := by rw [← hv]; exact List.mem_map.2 ⟨e, he, rfl⟩
  obtain ⟨e0, he0, ev⟩ := List.mem_map.1 this
  exact Tup.own_lt (ha e0 he0) k (by rw [ev]; exact hk.symm)
theorem collI_more {w W w5 w7 : World} {B Br br N : Nat} {R : List Row} {pre : List Tp} {x : Tp} {A A2 : Option Addr} {c c2 g' cap' : Nat} {es : List Elt} {nn : Int × Int} {b0 : Nat} (hBr : w.heap.size ≤ Br) (hrB : Br < B) (hBN : B < N) (hNW : N ≤ W.heap.size) (hb : Boxed W B 137 (.slice A pre.length c)) (hbr : Boxed W Br 24 (.pointer (some ⟨br, 0, none⟩))) (ho : W.ownsRow N 139 2 (.slice A pre.length c) pre.length (es.flatMap Elt.enc)) (ht : es.map Elt.t = pre) (hl : ∀ e ∈ es, lookF R e.t = some e.n) (ha : ∀ e ∈ es, e.At W w.heap.size) (hp : es.Pairwise Elt.ne) (hB0 : Below w.heap.size w W)
    (hlt : ∀ e ∈ es, ∀ k, e.v.ownBlock = some k → k < b0) (hwb : w.heap.size ≤ b0) (hh : W.ownsRow b0 3 1 (.slice A2 x.length c2) x.length (x.map (Value.int .i64))) (hx : lookF R x = some nn) (hs : Since W w5)
    (hown' : w7.ownsRow N 139 2 (.slice (some ⟨g', 0, none⟩) (pre.length + 1) cap') (pre.length + 1) (es.flatMap Elt.enc ++ [.slice A2 x.length c2, .complex .f64 (nf nn.1) (nf nn.2)])) (hgrow : (w5.alloc (.cells #[.slice A2 x.length c2, .complex .f64 (nf nn.1) (nf nn.2)] 139)).grownBy w7 (Value.slice A pre.length c).ownBlock) :
    CollI w B Br br R N (pre ++ [x]) (w7.setCell ⟨B, 0, none⟩ (.slice (some ⟨g', 0, none⟩) (pre.length + 1) cap')) ∧ KeepsOthers W (w7.setCell ⟨B, 0, none⟩ (.slice (some ⟨g', 0, none⟩) (pre.length + 1) cap')) ∧ (∀ k, k < N → k ≠ B → (w7.setCell ⟨B, 0, none⟩ (.slice (some ⟨g', 0, none⟩) (pre.length + 1) cap')).heap[k]? = W.heap[k]?) ∧ W.heap.size ≤ (w7.setCell ⟨B, 0, none⟩ (.slice (some ⟨g', 0, none⟩) (pre.length + 1) cap')).heap.size := by
  have hs5 := hs.b.size
  have hb5 : Boxed w5 B 137 (.slice A pre.length c) := blk hs.b hb
  have ho5 : w5.ownsRow N 139 2 (.slice A pre.length c) pre.length (es.flatMap Elt.enc) := own_move ho fun k hk => hs.b.block k (Tup.own_lt ho k hk.symm)
  have hv1 : Boxed w7 B 137 (.slice A pre.length c) := (hb5.alloc _).kept hgrow (hb5.not_row (by decide) ho5)
  have hv2 := hv1.set (.slice (some ⟨g', 0, none⟩) (pre.length + 1) cap')
  have hr2 := hown'.kept (grownBy_setCell' w7 B (.slice (some ⟨g', 0, none⟩) (pre.length + 1) cap')) (.inr (hv1.not_row (by decide) hown').symm)
  have hk2 : KeepsOthers W (w7.setCell ⟨B, 0, none⟩ (.slice (some ⟨g', 0, none⟩) (pre.length + 1) cap')) := by
    refine (((KeepsOthers.of_grownBy (row := none) ⟨hs.b.os, hs.b.tape, hs.b.output, hs.b.size, fun k hk _ => hs.b.block k hk⟩ fun j o ej _ => by cases ej).trans (KeepsOthers.alloc w5 (.cells #[.slice A2 x.length c2, .complex .f64 (nf nn.1) (nf nn.2)] 139))).trans (KeepsOthers.of_grownBy hgrow fun j o ej hj => ?_)).trans (KeepsOthers.setCell _ _ _)
    obtain ⟨cells, hc⟩ := own_typed (ho5.alloc (.cells #[.slice A2 x.length c2, .complex .f64 (nf nn.1) (nf nn.2)] 139)) j ej
    rw [hc] at hj; cases hj; rfl
  have hb2 : Below w.heap.size W (w7.setCell ⟨B, 0, none⟩ (.slice (some ⟨g', 0, none⟩) (pre.length + 1) cap')) := by
    refine ((((hs.b.mono (by have := hB0.size; omega)).alloc (by have := hB0.size; omega) (.cells #[.slice A2 x.length c2, .complex .f64 (nf nn.1) (nf nn.2)] 139)).grown hgrow (by simp; have := hB0.size; omega) fun j ej => ?_)).setCell (p := ⟨B, 0, none⟩) (by show w.heap.size ≤ B; omega) _
    exact Nat.le_trans (by omega) (own_ge ho j ej.symm)
  obtain ⟨V, hV⟩ : ∃ V, V = w7.setCell ⟨B, 0, none⟩ (.slice (some ⟨g', 0, none⟩) (pre.length + 1) cap') := ⟨_, rfl⟩
  have hasz : w5.heap.size ≤ (w5.alloc (.cells #[.slice A2 x.length c2, .complex .f64 (nf nn.1) (nf nn.2)] 139)).heap.size := by simp
  have hblk : ∀ k, k ≠ B → some k ≠ (Value.slice A pre.length c).ownBlock → k < W.heap.size → V.heap[k]? = W.heap[k]? := fun k h1 h2 h3 => by
    rw [hV, Below.heap_setCell _ _ _ _ h1, hgrow.block k (by omega) h2, Below.heap_alloc _ _ _ (by omega), hs.b.block k h3]
  rw [← hV] at hv2 hr2 hk2 hb2 ⊢
  have hint : ∀ k, IsInts W k → V.heap[k]? = W.heap[k]? := fun k ⟨cs, fr, hk⟩ => hblk k (fun e => by
    subst e
    have hb' : W.heap[k]? = _ := hb
    rw [hk] at hb'
    injection hb' with hb'
    injection hb' with _ h3 _
    exact absurd h3 (by decide)) (fun e => by
    obtain ⟨cells, hc⟩ := own_typed ho k e.symm
    rw [hk] at hc
    injection hc with hc
    injection hc with _ h3 _
    exact absurd h3 (by decide)) (Array.getElem?_eq_some_iff.1 hk).1
  have hxe : (⟨A2, c2, x, nn⟩ : Elt).At W w.heap.size := own_weaken hh hwb
  refine ⟨⟨some ⟨g', 0, none⟩, cap', es ++ [⟨A2, c2, x, nn⟩], by simpa using hv2, (hblk Br (by omega) (fun e => by have := own_ge ho Br e; omega) (by omega)).trans hbr, Nat.le_trans hNW hb2.size, by simpa [Elt.enc, Elt.v, noteV] using hr2, by simp [ht], ?_, ?_, ?_, hB0.trans hb2⟩, hk2, fun k hk hkB => hblk k hkB (fun e => by have := own_ge ho k e; omega) (by omega), hb2.size⟩
  · intro e he
    rcases List.mem_append.1 he with he | he
    · exact hl e he
    · rw [List.mem_singleton] at he; subst he; exact hx
  · intro e he
    rcases List.mem_append.1 he with he | he
    · exact (ha e he).move hint
    · rw [List.mem_singleton] at he; subst he; exact hxe.move hint
  · rw [List.pairwise_append]
    refine ⟨hp, by simp, fun e he f hf k hk hk' => ?_⟩
    rw [List.mem_singleton] at hf; subst hf
    have h1 := hlt e he k hk
    have h2 := own_ge hh k hk'.symm
    omega
end Go.Proofs.YtcmllllbmgcnlaaGreat.Rl
end
