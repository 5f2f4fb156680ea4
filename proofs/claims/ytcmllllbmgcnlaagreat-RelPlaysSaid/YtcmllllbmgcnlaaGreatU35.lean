/- Own texts, joined and cut to what the claim stands on: RlMerge, RlSwap, RlDuo, RlDoes, RlDoes2, RlLaw3. -/
import Derived.Test.YtcmllllbmgcnlaaGreatU34
import Derived.Test.YtcmllllbmgcnlaaGreatU19
import Derived.Test.YtcmllllbmgcnlaaGreatU32
import Derived.Test.YtcmllllbmgcnlaaGreatU31
import Derived.Test.YtcmllllbmgcnlaaGreatU9
section
namespace Go.Proofs.YtcmllllbmgcnlaaGreat.Rl
open Go.RowKit Go.Lib Go.Shelf Go.Proofs.YtcmllllbmgcnlaaGreat.G Go.Proofs.YtcmllllbmgcnlaaGreat.Tup Go.Proofs.YtcmllllbmgcnlaaGreatW.PrintWords Go.Proofs.YtcmllllbmgcnlaaGreatW.PrintLast Go.Proofs.YtcmllllbmgcnlaaGreatW.PrintMore
set_option linter.unusedVariables false
set_option linter.unusedSimpArgs false
attribute [local go_sem] Oper.semAt_some
structure MergI (wL : World) (F : Nat → Prop) (b m wd : Nat) (os : List Tp) (bss : List Nat) (bN bR bE : Nat) (n v u : Int) (R : List Row) (W : World) : Prop where
 kp : KeptS (fun k => F k ∨ k = bN ∨ k = bR ∨ k = bE) wL W
 kN : W.heap[bN]? = some (.cells #[.int .i64 n] 3 (0, 0))
 kR : W.heap[bR]? = some (.cells #[.int .i64 v] 3 (0, 0))
 kE : W.heap[bE]? = some (.cells #[.int .i64 u] 25 (0, 0))
 st : ∃ ok, RelAt ok W b wd os R m bss ∧ ∀ k, ok k → F k
structure MergN (wL : World) (F : Nat → Prop) (b m : Nat) (bss : List Nat) (bN bR bE : Nat) : Prop where
 lN : bN < wL.heap.size
 lR : bR < wL.heap.size
 lE : bE < wL.heap.size
 fN : ¬ F bN
 fR : ¬ F bR
 fE : ¬ F bE
 n4 : bN ≠ bR
 n5 : bN ≠ bE
 n6 : bR ≠ bE
 new : ∀ k, wL.heap.size ≤ k → F k
 low : ∀ k, (k = b ∨ k = m ∨ k ∈ bss) → F k ∧ k < wL.heap.size
section
variable {wL W W1 : World} {F : Nat → Prop} {b m wd : Nat} {os : List Tp} {bss : List Nat} {bN bR bE : Nat} {n v u : Int} {R : List Row}
theorem one_set {w : World} {b : Nat} {x y : Value} {t : TypeId} (h : w.heap[b]? = some (.cells #[x] t (0, 0))) : (w.setCell ⟨b, 0, none⟩ y).heap[b]? = some (.cells #[y] t (0, 0)) := by
 have := heap_setCell_same w b 0 _ _ y h
 simpa using this
theorem one_cell {w : World} {b : Nat} {x : Value} {t : TypeId} (h : w.heap[b]? = some (.cells #[x] t (0, 0))) : w.cell? ⟨b, 0, none⟩ = some x := (Tup.cell_of_heap h 0).trans rfl
theorem one_free {w : World} {b : Nat} {x : Value} {t : TypeId} (h : w.heap[b]? = some (.cells #[x] t (0, 0))) : w.frozen? ⟨b, 0, none⟩ = false := free_of_heap h 0
theorem MergI.grown (h : MergI wL F b m wd os bss bN bR bE n v u R W) (M : MergN wL F b m bss bN bR bE) {row : Option Nat} (hg : W.grownBy W1 row) (hr : ∀ r, row = some r → wL.heap.size ≤ r ∧ ∃ o : Obj, W.heap[r]? = some o ∧ o.isCells = false) : MergI wL F b m wd os bss bN bR bE n v u R W1 := by
 obtain ⟨ok, hR, hk⟩ := h.st
 have hsz := h.kp.size
 have hlt : ∀ k, k < wL.heap.size → W1.heap[k]? = W.heap[k]? := fun k hk => hg.block k (Nat.lt_of_lt_of_le hk hsz) fun e => by have := (hr k e.symm).1; omega
 exact ⟨h.kp.trans ⟨hg.os, hg.tape, hg.output, hg.size, fun k hk hn => hg.block k hk fun e => hn (.inl (M.new k (hr k e.symm).1))⟩, (hlt bN M.lN).trans h.kN, (hlt bR M.lR).trans h.kR, (hlt bE M.lE).trans h.kE, ok, hR.others hg fun r e => ⟨fun e2 => by have := (hr r e).1; have := (M.low m (.inr (.inl rfl))).2; omega, (hr r e).2⟩, hk⟩
theorem MergI.since (h : MergI wL F b m wd os bss bN bR bE n v u R W) (hs : Since W W1) : MergI wL F b m wd os bss bN bR bE n v u R W1 := by
 obtain ⟨ok, hR, hk⟩ := h.st
 exact ⟨h.kp.trans (.below hs.b), blk hs.b h.kN, blk hs.b h.kR, blk hs.b h.kE, ok, hR.below hs.b, hk⟩
theorem MergI.set (h : MergI wL F b m wd os bss bN bR bE n v u R W) (M : MergN wL F b m bss bN bR bE) :
  (∀ x : Int, MergI wL F b m wd os bss bN bR bE x v u R (W.setCell ⟨bN, 0, none⟩ (.int .i64 x))) ∧ (∀ x : Int, MergI wL F b m wd os bss bN bR bE n x u R (W.setCell ⟨bR, 0, none⟩ (.int .i64 x))) ∧ (∀ x : Int, MergI wL F b m wd os bss bN bR bE n v x R (W.setCell ⟨bE, 0, none⟩ (.int .i64 x))) := by
 obtain ⟨ok, hR, hk⟩ := h.st
 have ho : ∀ (q : Nat) (y : Value) k, k ≠ q → (W.setCell ⟨q, 0, none⟩ y).heap[k]? = W.heap[k]? := fun q y k hk => Below.heap_setCell _ _ _ _ hk
 have hkp : ∀ (q : Nat) (y : Value), (q = bN ∨ q = bR ∨ q = bE) → KeptS (fun k => F k ∨ k = bN ∨ k = bR ∨ k = bE) W (W.setCell ⟨q, 0, none⟩ y) := fun q y hq => (KeptS.one (Kept1.set q W 0 y)).mono fun k hk => .inr (hk ▸ hq)
 have hst : ∀ (q : Nat) (y : Value), ¬ F q → RelAt ok (W.setCell ⟨q, 0, none⟩ y) b wd os R m bss := fun q y hq => hR.step fun k hk' _ => ho q y k fun e => hq (e ▸ (hk'.elim (hk k) fun hk' => (M.low k hk').1))
 exact ⟨fun x => ⟨h.kp.trans (hkp _ _ (.inl rfl)), one_set h.kN, (ho _ _ _ M.n4.symm).trans h.kR, (ho _ _ _ M.n5.symm).trans h.kE, ok, hst _ _ M.fN, hk⟩,
  fun x => ⟨h.kp.trans (hkp _ _ (.inr (.inl rfl))), (ho _ _ _ M.n4).trans h.kN, one_set h.kR, (ho _ _ _ M.n6.symm).trans h.kE, ok, hst _ _ M.fR, hk⟩,
  fun x => ⟨h.kp.trans (hkp _ _ (.inr (.inr rfl))), (ho _ _ _ M.n5).trans h.kN, (ho _ _ _ M.n6).trans h.kR, one_set h.kE, ok, hst _ _ M.fE, hk⟩⟩
structure MergK (a : Nat) (W W' : World) : Prop where
 size : W.heap.size ≤ W'.heap.size
 same : ∀ k, a ≤ k → k < W.heap.size → W'.heap[k]? = W.heap[k]?
theorem MergK.set {a : Nat} (h : MergK a W W1) {q : Nat} (hq : q < a) (y : Value) : MergK a W (W1.setCell ⟨q, 0, none⟩ y) :=
 ⟨by simpa using h.size, fun k ha hk => (Below.heap_setCell _ _ _ _ (by show k ≠ q; omega)).trans (h.same k ha hk)⟩
theorem MergK.keeps {a : Nat} (h : MergK a W W1) : KeepsFrom a W W1 :=
 ⟨h.size, fun k o hk ho _ => (h.same k hk (Array.getElem?_eq_some_iff.1 ho).1).trans ho⟩
theorem MergK.kpf {a : Nat} {fp : Nat → Prop} (h : MergK a W W1) (hf : ∀ k, fp k → a ≤ k) : KpF fp W W1 := ⟨h.size, fun k hk hlt => h.same k (hf k hk) hlt⟩
theorem MergI.put (h : MergI wL F b m wd os bss bN bR bE n v u R W) (M : MergN wL F b m bss bN bR bE) (z : Int × Int) (h1 : rightB z.1 = true) (h2 : rightB z.2 = true) {A : Option Addr} {c : Nat} {t : Tp} (ho : W.ownsRow wL.heap.size 3 1 (.slice A t.length c) t.length (t.map (Value.int .i64))) :
  Calls Tryz.prog 13 #[.pointer (some ⟨b, 0, none⟩), .complex .f64 (nf z.1) (nf z.2), .slice A t.length c] W fun e w' => e = .returned (.tuple #[.bool (putAns wd R t).1, .int .i64 (putAns wd R t).2]) ∧ MergI wL F b m wd os bss bN bR bE n v u (putTo wd R t z) w' ∧ MergK wL.heap.size W w' := by
 obtain ⟨ok, hR, hk⟩ := h.st
 have hsz := h.kp.size
 have hlow : ∀ k, (k = m ∨ k ∈ bss) → k < wL.heap.size := fun k hk => (M.low k (.inr hk)).2
 refine (rput_calls hR (nf z.1) (nf z.2) A c t (fun w' hw => own_sl (own_move ho fun k hk' => hw.same k (Tup.own_lt ho k hk'.symm) fun hS => by have := own_ge ho k hk'.symm; have := hlow k hS; omega))).mono fun e w' hp => ?_
 obtain ⟨e1, e2, e3⟩ := hp
 rw [putC_nf2 h1 h2] at e1 e2
 have hne : ∀ q, ¬ F q → q < wL.heap.size → w'.heap[q]? = W.heap[q]? := fun q hq hl => e3.same q (by omega) fun hS => hq (M.low q (.inr hS)).1
 exact ⟨e1, ⟨h.kp.trans (e3.mono fun k hk' => .inl (M.low k (.inr hk')).1), (hne bN M.fN M.lN).trans h.kN, (hne bR M.fR M.lR).trans h.kR, (hne bE M.fE M.lE).trans h.kE, _, e2, fun k hk' => hk'.elim (hk k) fun hk' => M.new k (by omega)⟩, ⟨e3.size, fun k ha hk' => e3.same k hk' fun hS => by have := hlow k hS; omega⟩⟩
end
set_option maxHeartbeats 2000000 in
set_option maxRecDepth 100000 in
theorem rlmerge_width {F1 F2 : Nat → Prop} (W : World) (b1 b2 wd1 wd2 : Nat) {R1 R2 : List Row} (h1 : RelF F1 W b1 wd1 R1) (h2 : RelF F2 W b2 wd2 R2) (hw : wd1 ≠ wd2) :
  Calls Tryz.prog 29 #[.pointer (some ⟨b1, 0, none⟩), .pointer (some ⟨b2, 0, none⟩)] W fun e w' => e = .returned (.tuple #[.int .i64 0, .int .i64 14]) ∧ Below W.heap.size W w' := by
 have hs := ((((Since.refl W).alloc (.cells #[.pointer (some ⟨b1, 0, none⟩)] 24)).alloc (.cells #[.int .i64 0] 3)).alloc (.cells #[.int .i64 0] 25))
 obtain ⟨ok1, os1, m1, bss1, r1, _⟩ := h1.since hs
 obtain ⟨ok2, os2, m2, bss2, r2, _⟩ := h2.since hs
 obtain ⟨_, _, _, _, p1, _⟩ := r1.hp
 obtain ⟨_, _, _, _, p2, _⟩ := r2.hp
 have d0 := (rec_of p1).c0
 have d1 := (rec_of p1).c1
 have d2 := (rec_of p2).c0
 have d3 := (rec_of p2).c1
 have k1 := rok_calls _ b1 d0
 have k2 := rok_calls _ b2 d2
 have hne : ((wd1 : Int) != (wd2 : Int)) = true := bne_iff_ne.2 (by omega)
 clear h1 h2 hw hs r1 r2 p1 p2 d0 d2
 go_enter Tryz.func29, Tryz.ntmps29
 go_wp2_with (first
  | (go_at_call 38; refine k1.mono ?_; clear k1; rintro e w' ⟨rfl, rfl⟩)
  | (go_at_call 38; refine k2.mono ?_; clear k2; rintro e w' ⟨rfl, rfl⟩))
 go_region
 all_goals go_wp2
 all_goals (refine bodyPost_ret (v := .tuple #[.int .i64 0, .int .i64 14]) (by simp [results, Tryz.results29, go_sem]) rfl ⟨rfl, ?_⟩)
 all_goals exact ((((Since.refl W).alloc _).alloc _).alloc _).b.drew
theorem rlmerge_close {F1 : Nat → Prop} {W wL W8 : World} {b m wd : Nat} {os : List Tp} {bss : List Nat} {bN bR bE : Nat} {x n e : Int} {R : List Row} (SW : Since W wL) (hF : ∀ k, W.heap.size ≤ k → F1 k) (M : MergN wL (fun k => (F1 k ∧ k < W.heap.size) ∨ wL.heap.size ≤ k) b m bss bN bR bE) (hb : W.heap.size ≤ bN ∧ W.heap.size ≤ bR ∧ W.heap.size ≤ bE) (h : MergI wL (fun k => (F1 k ∧ k < W.heap.size) ∨ wL.heap.size ≤ k) b m wd os bss bN bR bE x n e R W8) :
  RelF F1 W8 b wd R ∧ KeptS F1 W W8 := by
 obtain ⟨ok, hR, hk⟩ := h.st
 have hz := SW.b.size
 have hFF : ∀ k, (F1 k ∧ k < W.heap.size) ∨ wL.heap.size ≤ k → F1 k := fun k hk => hk.elim (fun h => h.1) fun h => hF k (by omega)
 refine ⟨⟨ok, os, m, bss, hR, fun k hk' => hFF k (hk'.elim (hk k) fun h => (M.low k h).1)⟩, h.kp.os.trans SW.b.os, h.kp.tape.trans SW.b.tape, h.kp.output.trans SW.b.output, Nat.le_trans hz h.kp.size, fun k hk' hn => (h.kp.same k (by omega) ?_).trans (SW.b.block k hk')⟩
 rintro (h1 | h1 | h1 | h1)
 ·exact hn (hFF k h1)
 ·omega
 ·omega
 ·omega
set_option maxHeartbeats 8000000 in
set_option maxRecDepth 100000 in
theorem rlmerge_main {F1 F2 : Nat → Prop} (W : World) (b1 b2 wd : Nat) {R1 R2 : List Row} (h1 : RelF F1 W b1 wd R1) (h2 : RelF F2 W b2 wd R2) (hd : ∀ k, F1 k → k < W.heap.size → ¬ F2 k) (hF : ∀ k, W.heap.size ≤ k → F1 k) :
  Calls Tryz.prog 29 #[.pointer (some ⟨b1, 0, none⟩), .pointer (some ⟨b2, 0, none⟩)] W fun e w' => e = .returned (.tuple #[.int .i64 ((mergeR wd R1 0 R2).1 : Int), .int .i64 (mergeR wd R1 0 R2).2.1]) ∧ RelF F1 w' b1 wd (mergeR wd R1 0 R2).2.2 ∧ KeptS F1 W w' := by
 have hs := ((((Since.refl W).alloc (.cells #[.pointer (some ⟨b1, 0, none⟩)] 24)).alloc (.cells #[.int .i64 0] 3)).alloc (.cells #[.int .i64 0] 25))
 obtain ⟨ok1, os1, m1, bss1, r1, q1⟩ := h1.bound
 obtain ⟨ok2, os2, m2, bss2, r2, q2⟩ := h2.bound
 obtain ⟨_, _, _, _, p1, _⟩ := (r1.below hs.b).hp
 obtain ⟨_, _, _, _, p2, _⟩ := (r2.below hs.b).hp
 have d0 := (rec_of p1).c0
 have d1 := (rec_of p1).c1
 have d2 := (rec_of p2).c0
 have d3 := (rec_of p2).c1
 have k1 := rok_calls _ b1 d0
 have k2 := rok_calls _ b2 d2
 have hne : ((wd : Int) != (wd : Int)) = false := by simp
 have H1 := Aside0.mk (And.intro r1 q1)
 have H2 := Aside0.mk (And.intro r2 q2)
 have HX := Aside0.mk (And.intro hd hF)
 clear h1 h2 hs r1 r2 p1 p2 d0 d2 q1 q2 hd hF
 refine callsIn_wide (n := 3) |>.1 ?_
 refine callsIn_of_wp_marks Tryz.func29 rfl trivial ?_ rfl
 simp only [Tryz.ntmps29, List.size_toArray, List.length_cons, List.length_nil, Nat.reduceAdd, Nat.reduceSub, Array.replicate_succ, Array.replicate_zero, List.push_toArray, List.append_toArray, List.nil_append, List.cons_append]
 gi_wp2_with (first
  | ((try refine ⟨trivial, ?_⟩); gi_at_call 38; refine (callsIn_wide.2 k1).mono ?_; clear k1; rintro e w' ⟨rfl, rfl⟩)
  | ((try refine ⟨trivial, ?_⟩); gi_at_call 38; refine (callsIn_wide.2 k2).mono ?_; clear k2; rintro e w' ⟨rfl, rfl⟩))
 gi_region
 obtain ⟨wA, hwA⟩ : ∃ wA, wA = (((W.alloc (.cells #[.pointer (some ⟨b1, 0, none⟩)] 24)).alloc (.cells #[.int .i64 0] 3)).alloc (.cells #[.int .i64 0] 25)).drew := ⟨_, rfl⟩
 have SA := Aside0.mk (show Since W wA by rw [hwA]; exact ((((Since.refl W).alloc _).alloc _).alloc _).drew)
 have hsA : wA.heap.size = W.heap.size + 3 := by rw [hwA]; simp
 have hS := Aside0.mk (show wA.heap[W.heap.size]? = some (.cells #[.pointer (some ⟨b1, 0, none⟩)] 24 (0, 0)) by
  rw [hwA]
  exact (Below.heap_alloc _ _ _ (by simp; omega)).trans ((Below.heap_alloc _ _ _ (by simp)).trans (heap_alloc_new W _)))
 have hR := Aside0.mk (show wA.heap[W.heap.size + 1]? = some (.cells #[.int .i64 0] 3 (0, 0)) by
  rw [hwA]
  have h := heap_alloc_new (W.alloc (.cells #[.pointer (some ⟨b1, 0, none⟩)] 24)) (.cells #[.int .i64 0] 3)
  rw [World.size_alloc] at h
  exact (Below.heap_alloc _ _ _ (by simp)).trans h)
 have hE := Aside0.mk (show wA.heap[W.heap.size + 1 + 1]? = some (.cells #[.int .i64 0] 25 (0, 0)) by
  rw [hwA]
  have h := heap_alloc_new ((W.alloc (.cells #[.pointer (some ⟨b1, 0, none⟩)] 24)).alloc (.cells #[.int .i64 0] 3)) (.cells #[.int .i64 0] 25)
  rw [World.size_alloc, World.size_alloc] at h
  exact h)
 obtain ⟨bS, hbS⟩ : ∃ b, b = W.heap.size := ⟨_, rfl⟩
 obtain ⟨bR, hbR⟩ : ∃ b, b = W.heap.size + 1 := ⟨_, rfl⟩
 obtain ⟨bE, hbE⟩ : ∃ b, b = W.heap.size + 1 + 1 := ⟨_, rfl⟩
 have HSZ : Aside0 (bS = W.heap.size ∧ bR = W.heap.size + 1 ∧ bE = W.heap.size + 2 ∧ wA.heap.size = W.heap.size + 3) := ⟨by omega⟩
 rw [← hwA]
 rw [← hbS] at hS
 rw [← hbR] at hR
 rw [← hbE] at hE
 rw [← hbE, ← hbR, ← hbS]
 clear hwA hsA hbS hbR hbE d1 d3 hne
 have hA1 := rall_calls (wA.alloc (.cells #[.int .i64 0] 3)) (.pointer (some ⟨b2, 0, none⟩)) ⟨_, rfl⟩
 gi_wp2_with (first
  | ((try refine ⟨trivial, ?_⟩); gi_at_call 25; refine (callsIn_wide.2 hA1).mono ?_; clear hA1; rintro e w7 ⟨rfl, rfl⟩))
 obtain ⟨wL, hwL⟩ : ∃ wL, wL = (wA.alloc (.cells #[.int .i64 0] 3)).alloc (.cells #[.pointer (some ⟨b2, 0, none⟩)] 24) := ⟨_, rfl⟩
 have SL := Aside0.mk (show Since wA wL by rw [hwL]; exact ((Since.refl wA).alloc _).alloc _)
 have hsL : wL.heap.size = wA.heap.size + 2 := by rw [hwL]; simp
 have hN := Aside0.mk (show wL.heap[wA.heap.size]? = some (.cells #[.int .i64 0] 3 (0, 0)) by
  rw [hwL]
  exact (Below.heap_alloc _ _ _ (by simp)).trans (heap_alloc_new wA _))
 have hA := Aside0.mk (show wL.heap[wA.heap.size + 1]? = some (.cells #[.pointer (some ⟨b2, 0, none⟩)] 24 (0, 0)) by
  rw [hwL]
  have h := heap_alloc_new (wA.alloc (.cells #[.int .i64 0] 3)) (.cells #[.pointer (some ⟨b2, 0, none⟩)] 24)
  rw [World.size_alloc] at h
  exact h)
 obtain ⟨bN, hbN⟩ : ∃ b, b = wA.heap.size := ⟨_, rfl⟩
 obtain ⟨bA, hbA⟩ : ∃ b, b = wA.heap.size + 1 := ⟨_, rfl⟩
 rw [← hwL]
 rw [← hbN] at hN
 rw [← hbA] at hA
 rw [← hbA, ← hbN]
 have HZ : Aside0 (bN = W.heap.size + 3 ∧ bA = W.heap.size + 4 ∧ wL.heap.size = W.heap.size + 5) := ⟨by have := HSZ.out; omega⟩
 have HM := Aside0.mk (show MergN wL (fun k => (F1 k ∧ k < W.heap.size) ∨ wL.heap.size ≤ k) b1 m1 bss1 bN bR bE by
  have h1 := HSZ.out
  have h2 := HZ.out
  exact ⟨by omega, by omega, by omega, by omega, by omega, by omega, by omega, by omega, by omega, fun k hk => .inr hk, fun k hk => by
   have := H1.out.2 k (.inr hk)
   exact ⟨.inl this, by omega⟩⟩)
 have SW := Aside0.mk (SA.out.trans SL.out)
 have HI0 := Aside0.mk (show MergI wL (fun k => (F1 k ∧ k < W.heap.size) ∨ wL.heap.size ≤ k) b1 m1 wd os1 bss1 bN bR bE 0 0 0 R1 wL from ⟨.refl _ _, hN.out, blk SL.out.b hR.out, blk SL.out.b hE.out, ok1, H1.out.1.below SW.out.b, fun k hk => .inl (H1.out.2 k (.inl hk))⟩)
 have HS2 := Aside0.mk (H2.out.1.below SW.out.b)
 have hSL := Aside0.mk (blk SL.out.b hS.out)
 have HBX : Aside0 (W.heap.size ≤ bN ∧ W.heap.size ≤ bR ∧ W.heap.size ≤ bE) := ⟨by have := HZ.out; have := HSZ.out; omega⟩
 clear hwL hsL hbN hbA hS hR hE hN
 refine range2_outer1 rfl rfl (gf := 54) (lb := #[.pointer (some ⟨bA, 0, none⟩)]) rfl trivial rall_enters (rall_seq HS2.out bA (one_cell hA.out)) rfl (fun t u v => (((t.setIfInBounds 32 u).setIfInBounds 33 v).setIfInBounds 7 u).setIfInBounds 8 v) (fun N pre W' => N ≤ W'.heap.size ∧ ∃ (n : Nat) (R : List Row) (rest : List Row), pre ++ rest = R2 ∧ mergeR wd R1 0 R2 = mergeR wd R n rest ∧ n ≤ pre.length ∧ MergI wL (fun k => (F1 k ∧ k < W.heap.size) ∨ wL.heap.size ≤ k) b1 m1 wd os1 bss1 bN bR bE n 0 0 R W') (fun N c pre W' => c = .ret ∧ ∃ (n : Nat) (e : Int) (R : List Row), mergeR wd R1 0 R2 = (n, e, R) ∧ ∃ x, MergI wL (fun k => (F1 k ∧ k < W.heap.size) ∨ wL.heap.size ≤ k) b1 m1 wd os1 bss1 bN bR bE x n e R W') (fun N _ => ?own) (fun N c _ => ?ownx) (fun W' hW' _ => ⟨Nat.le_refl _, 0, R1, R2, rfl, rfl, Nat.le_refl _, HI0.out.since ⟨hW'⟩⟩) ?assign ?body ?done ?stop
 case own =>
  rintro s X Y row ⟨h1, n, L, rest, e1, e2, e3, h2⟩ hg hr
  exact ⟨Nat.le_trans h1 hg.size, n, L, rest, e1, e2, e3, h2.grown HM.out hg hr⟩
 case ownx =>
  rintro s X Y row ⟨h1, n, e, L, e1, x, h2⟩ hg hr
  exact ⟨h1, n, e, L, e1, x, h2.grown HM.out hg hr⟩
 case assign =>
  intro l u v W' K hK
  gi_wp2
  exact hK
 case body =>
  rintro N l pre x A c W1 hNw hl ⟨rl, hrl⟩ hpre ⟨hh, hhN⟩ ⟨hN1, n, R, rest, e1, e2, e3, hI⟩
  obtain ⟨rest', hrest⟩ : ∃ rest', rest = x :: rest' := by
   obtain ⟨z, hz⟩ := hpre
   rw [← e1, List.append_assoc] at hz
   exact ⟨z, (List.append_cancel_left hz).symm⟩
  subst hrest
  have hxm : x ∈ R2 := by rw [← e1]; simp
  obtain ⟨x1, x2⟩ := H2.out.1.hR.nt x hxm
  have hPu := hI.put HM.out x.2 x1 x2 (own_weaken hh (by omega))
  have kS := one_cell ((hI.kp.same bS (by have := HZ.out; have := HSZ.out; omega) (by have := HZ.out; have := HSZ.out; omega)).trans hSL.out)
  obtain ⟨qb, hqb⟩ : ∃ q, q = (putAns wd R x.1).1 := ⟨_, rfl⟩
  obtain ⟨qe, hqe⟩ : ∃ q, q = (putAns wd R x.1).2 := ⟨_, rfl⟩
  rw [← hqb, ← hqe] at hPu
  have HQ := Aside0.mk (And.intro hqb hqe)
  have HE := Aside0.mk (And.intro e1 (And.intro e2 e3))
  have HNN := Aside0.mk hN1
  have hnl : n ≤ 1024 := by
   have h1 := hpre.length_le
   have := H2.out.1.hR.le
   simp at h1
   omega
  have HP := Aside0.mk hPu
  obtain ⟨tx, z1, z2⟩ := x
  dsimp only at HP ⊢
  simp only [noteV]
  clear hpre hh hhN hN1 e1 e2 e3 hI hxm hPu hqb hqe hrl x1 x2
  by_cases he : qe = 0
  ·subst he
   cases qb with
   | true =>
    gi_wp2_with (first
     | ((try refine ⟨trivial, ?_⟩); gi_at_call 13; go_loud ((refine (callsIn_wide.2 HP.out).mono ?_)); rintro e w4 ⟨rfl, hI4, hk4⟩; have HK4 := Aside0.mk hk4; have HI4 := Aside0.mk hI4; have kN4 := one_cell hI4.kN; have fN4 := one_free hI4.kN; clear hk4 hI4))
    have hKs : MergK wL.heap.size W1 (w4.setCell ⟨bN, 0, none⟩ (.int .i64 ((n : Int) + 1))) := HK4.out.set HM.out.lN _
    have e4 := HE.out
    exact ⟨hKs.keeps, hKs.kpf (fun k hk => by have := hk.1; omega), Nat.le_trans HNN.out hKs.size, n + 1, putTo wd R tx (z1, z2), rest', by rw [← e4.1]; simp, by rw [e4.2.1, mergeR_go (by exact HQ.out.2.symm), ← HQ.out.1]; rfl, by simp; exact e4.2.2, (HI4.out.set HM.out).1 _⟩
   | false =>
    gi_wp2_with (first
     | ((try refine ⟨trivial, ?_⟩); gi_at_call 13; go_loud ((refine (callsIn_wide.2 HP.out).mono ?_)); rintro e w4 ⟨rfl, hI4, hk4⟩; have HK4 := Aside0.mk hk4; have HI4 := Aside0.mk hI4; clear hk4 hI4))
    have hKs : MergK wL.heap.size W1 w4 := HK4.out
    have e4 := HE.out
    exact ⟨hKs.keeps, hKs.kpf (fun k hk => by have := hk.1; omega), Nat.le_trans HNN.out hKs.size, n, putTo wd R tx (z1, z2), rest', by rw [← e4.1]; simp, by rw [e4.2.1, mergeR_go (by exact HQ.out.2.symm), ← HQ.out.1]; rfl, by simp; exact Nat.le_succ_of_le e4.2.2, HI4.out⟩
  ·have hed : (qe != 0) = true := by simpa using he
   have HE0 := Aside0.mk he
   clear he
   gi_wp2_with (first
    | ((try refine ⟨trivial, ?_⟩); gi_at_call 13; go_loud ((refine (callsIn_wide.2 HP.out).mono ?_)); rintro e w4 ⟨rfl, hI4, hk4⟩; have HK4 := Aside0.mk hk4; have HI4 := Aside0.mk hI4; have kN4 := one_cell hI4.kN; have kR4 := one_cell hI4.kR; have fR4 := one_free hI4.kR; have kE4 := one_cell hI4.kE; have fE4 := one_free hI4.kE; have n6 := HM.out.n6; have n6' := n6.symm; clear hk4 hI4))
   have hKs : MergK wL.heap.size W1 ((w4.setCell ⟨bR, 0, none⟩ (.int .i64 (n : Int))).setCell ⟨bE, 0, none⟩ (.int .i64 qe)) := (HK4.out.set HM.out.lR _).set HM.out.lE _
   have e4 := HE.out
   have hst : (putAns wd R tx).2 ≠ 0 := by rw [← HQ.out.2]; exact HE0.out
   refine ⟨hKs.keeps, rfl, n, qe, R, by rw [e4.2.1, mergeR_stop hst, ← HQ.out.2], n, ?_⟩
   have := ((((HI4.out.set HM.out).2.1 (n : Int)).set HM.out).2.2 qe)
   rwa [putTo_err hst] at this
 case done =>
  rintro N D W7 hNw hD ⟨hN, n, R, rest, e1, e2, e3, hI⟩ hK
  have hr0 : rest = [] := by
   have := congrArg List.length e1
   simp at this
   exact this
  subst hr0
  have HE := Aside0.mk e2
  have HI := Aside0.mk hI
  have HK := Aside0.mk hK
  have kN := one_cell hI.kN
  have kR := one_cell hI.kR
  have fR := one_free hI.kR
  have kE := one_cell hI.kE
  have fE := one_free hI.kE
  have n6 := HM.out.n6
  have n6' := n6.symm
  clear e1 e2 e3 hI hK hN
  gi_wp2
  have hI8 := ((((HI.out.set HM.out).2.1 (n : Int)).set HM.out).2.2 (0 : Int))
  obtain ⟨W8, hW8⟩ : ∃ W8, W8 = (W7.setCell ⟨bR, 0, none⟩ (.int .i64 (n : Int))).setCell ⟨bE, 0, none⟩ (.int .i64 0) := ⟨_, rfl⟩
  have hK8 : W8.heap[D]? = some (.deferred (some [])) := by
   have h1 := HM.out.lR
   have h2 := HM.out.lE
   rw [hW8, Below.heap_setCell _ _ _ _ (by show D ≠ bE; omega), Below.heap_setCell _ _ _ _ (by show D ≠ bR; omega)]
   exact HK.out
  rw [← hW8] at hI8 ⊢
  refine ⟨by simp, .inl ⟨_, _, rfl, run_takeDeferred hK8, ?_⟩⟩
  have hI9 := hI8.grown HM.out (grownBy_putObj' W8 D (.deferred none)) (fun r e => by cases e; exact ⟨by omega, _, hK8, rfl⟩)
  have hR9 := one_cell hI9.kR
  have hE9 := one_cell hI9.kE
  have hc := rlmerge_close SW.out HX.out.2 HM.out HBX.out hI9
  have hfin : mergeR wd R1 0 R2 = (n, 0, R) := HE.out
  rw [hfin]
  exact ⟨.tuple #[.int .i64 (n : Int), .int .i64 0], by simp [results, Tryz.results29, go_sem, hR9, hE9], rfl, hc⟩
 case stop =>
  rintro N D c pre W7 hNw hD hpre ⟨rfl, n, e, R, e1, x, hI⟩ hK
  have HE := Aside0.mk e1
  have HI := Aside0.mk hI
  have HK := Aside0.mk hK
  clear e1 hI hK hpre
  gi_wp2
  refine ⟨by simp, .inl ⟨_, _, rfl, run_takeDeferred HK.out, ?_⟩⟩
  have hI9 := HI.out.grown HM.out (grownBy_putObj' W7 D (.deferred none)) (fun r e => by cases e; exact ⟨by omega, _, HK.out, rfl⟩)
  have hR9 := one_cell hI9.kR
  have hE9 := one_cell hI9.kE
  have hc := rlmerge_close SW.out HX.out.2 HM.out HBX.out hI9
  rw [HE.out]
  exact ⟨.tuple #[.int .i64 (n : Int), .int .i64 e], by simp [results, Tryz.results29, go_sem, hR9, hE9], rfl, hc⟩
end Go.Proofs.YtcmllllbmgcnlaaGreat.Rl
end
section
namespace Go.Proofs.YtcmllllbmgcnlaaGreat.Rl
open Go.RowKit Go.Lib Go.Shelf Go.Proofs.YtcmllllbmgcnlaaGreat.G Go.Proofs.YtcmllllbmgcnlaaGreat.Tup Go.Proofs.YtcmllllbmgcnlaaGreatW.PrintWords Go.Proofs.YtcmllllbmgcnlaaGreatW.PrintLast Go.Proofs.YtcmllllbmgcnlaaGreatW.PrintMore
set_option linter.unusedVariables false
set_option linter.unusedSimpArgs false
theorem put5 (w : World) (b : Nat) {y0 y1 y2 y3 y4 : Value} {t : TypeId} (h : w.heap[b]? = some (.cells #[y0, y1, y2, y3, y4] t (0, 0))) (x0 x1 x2 x3 x4 : Value) :
  (((((w.setCell ⟨b, 0, none⟩ x0).setCell ⟨b, 1, none⟩ x1).setCell ⟨b, 2, none⟩ x2).setCell ⟨b, 3, none⟩ x3).setCell ⟨b, 4, none⟩ x4).heap[b]? = some (.cells #[x0, x1, x2, x3, x4] t (0, 0)) ∧ Kept1 b w (((((w.setCell ⟨b, 0, none⟩ x0).setCell ⟨b, 1, none⟩ x1).setCell ⟨b, 2, none⟩ x2).setCell ⟨b, 3, none⟩ x3).setCell ⟨b, 4, none⟩ x4) := by
 have h0 := heap_setCell_same w b 0 _ _ x0 h
 have h1 := heap_setCell_same _ b 1 _ _ x1 h0
 have h2 := heap_setCell_same _ b 2 _ _ x2 h1
 have h3 := heap_setCell_same _ b 3 _ _ x3 h2
 have h4 := heap_setCell_same _ b 4 _ _ x4 h3
 exact ⟨by simpa using h4, ((((Kept1.set b w 0 x0).trans (Kept1.set b _ 1 x1)).trans (Kept1.set b _ 2 x2)).trans (Kept1.set b _ 3 x3)).trans (Kept1.set b _ 4 x4)⟩
theorem RelAt.moved {ok : Nat → Prop} {W W1 : World} {br wd : Nat} {os : List Tp} {R : List Row} {m : Nat} {bss : List Nat} (h : RelAt ok W br wd os R m bss) {b : Nat} (hb : ¬ ok b ∧ b ≠ m ∧ b ∉ bss) (hh : W1.heap[b]? = W.heap[br]?) (hm : ∀ k, (ok k ∨ k = m ∨ k ∈ bss) → k < W.heap.size → W1.heap[k]? = W.heap[k]?) : RelAt ok W1 b wd os R m bss := by
 obtain ⟨Ao, co, As, cs, hp, h1, h2, h3, h4⟩ := h.hp
 exact ⟨⟨Ao, co, As, cs, hh.trans hp, h1, h2, Kd.F_step h3 fun k hk => hm k (.inl hk), Kd.F_step h4 fun k hk => hm k (.inl hk)⟩, h.hos, h.hR, h.map.step (hm m (.inr (.inl rfl)) h.map.lt), h.len,
  h.sets.step (fun k hk => hm k (.inl hk)) (fun q hq => hm q (.inr (.inr hq))), h.nd, fun q hq => ⟨(h.nb q hq).1, fun e => hb.2.2 (e ▸ hq), (h.nb q hq).2.2⟩, ⟨hb.1, hb.2.1⟩, h.nm⟩
structure Swapped (b1 b2 : Nat) (W w' : World) : Prop where
 k : KeptS (fun k => k = b1 ∨ k = b2) W w'
 x : w'.heap[b1]? = W.heap[b2]?
 y : w'.heap[b2]? = W.heap[b1]?
theorem RelF.swapped {F1 F2 : Nat → Prop} {W w' : World} {b1 b2 wd : Nat} {R : List Row} (h : RelF F2 W b2 wd R) (hd : ∀ k, F1 k → ¬ F2 k) (h1 : F1 b1) (hs : Swapped b1 b2 W w') : RelF (fun k => (F2 k ∧ k ≠ b2) ∨ k = b1) w' b1 wd R := by
 obtain ⟨ok, os, m, bss, hR, hk⟩ := h
 have hb1 : ¬ F2 b1 := hd b1 h1
 have hne : ∀ k, (ok k ∨ k = m ∨ k ∈ bss) → k ≠ b2 := fun k hk' e => by
  subst e
  rcases hk' with h | h | h
  ·exact hR.nr.1 h
  ·exact hR.nr.2 h
  ·exact (hR.nb _ h).2.1 rfl
 have hF : ∀ k, (ok k ∨ k = m ∨ k ∈ bss) → F2 k := fun k hk' => hk k (hk'.elim .inl fun h => .inr (.inr h))
 refine ⟨ok, os, m, bss, hR.moved ⟨fun h => hb1 (hF _ (.inl h)), fun h => hb1 (h ▸ hF m (.inr (.inl rfl))), fun h => hb1 (hF _ (.inr (.inr h)))⟩ hs.x fun k hk' hlt => hs.k.same k hlt ?_, fun k hk' => ?_⟩
 ·rintro (e | e)
  ·exact hb1 (e ▸ hF k hk')
  ·exact hne k hk' e
 ·rcases hk' with h | h | h | h
  ·exact .inl ⟨hF k (.inl h), hne k (.inl h)⟩
  ·exact .inr h
  ·exact .inl ⟨hF k (.inr (.inl h)), hne k (.inr (.inl h))⟩
  ·exact .inl ⟨hF k (.inr (.inr h)), hne k (.inr (.inr h))⟩
set_option maxHeartbeats 2000000 in
set_option maxRecDepth 100000 in
theorem rlswap_width {F1 F2 : Nat → Prop} (W : World) (b1 b2 wd1 wd2 : Nat) {R1 R2 : List Row} (h1 : RelF F1 W b1 wd1 R1) (h2 : RelF F2 W b2 wd2 R2) (hw : wd1 ≠ wd2) :
  Calls Tryz.prog 32 #[.pointer (some ⟨b1, 0, none⟩), .pointer (some ⟨b2, 0, none⟩)] W fun e w' => e = .returned (.int .i64 14) ∧ Since W w' := by
 obtain ⟨ok1, os1, m1, bss1, r1, _⟩ := h1
 obtain ⟨ok2, os2, m2, bss2, r2, _⟩ := h2
 obtain ⟨_, _, _, _, p1, _⟩ := r1.hp
 obtain ⟨_, _, _, _, p2, _⟩ := r2.hp
 have d0 := (rec_of p1).c0
 have d1 := (rec_of p1).c1
 have d2 := (rec_of p2).c0
 have d3 := (rec_of p2).c1
 have k1 := rok_calls _ b1 d0
 have k2 := rok_calls _ b2 d2
 have hne : ((wd1 : Int) != (wd2 : Int)) = true := bne_iff_ne.2 (by omega)
 clear hw r1 r2 p1 p2 d0 d2
 go_enter Tryz.func32, Tryz.ntmps32
 go_wp2_with (first
  | (go_at_call 38; refine k1.mono ?_; clear k1; rintro e w' ⟨rfl, rfl⟩)
  | (go_at_call 38; refine k2.mono ?_; clear k2; rintro e w' ⟨rfl, rfl⟩))
 go_region
 all_goals go_wp2
 go_ret
 exact ⟨rfl, (Since.refl W).drew⟩
set_option maxHeartbeats 4000000 in
set_option maxRecDepth 100000 in
theorem rlswap_same {F1 F2 : Nat → Prop} (W : World) (b1 b2 wd : Nat) {R1 R2 : List Row} (h1 : RelF F1 W b1 wd R1) (h2 : RelF F2 W b2 wd R2) (hne : b1 ≠ b2) :
  Calls Tryz.prog 32 #[.pointer (some ⟨b1, 0, none⟩), .pointer (some ⟨b2, 0, none⟩)] W fun e w' => e = .returned (.int .i64 0) ∧ ∃ w1, Swapped b1 b2 W w1 ∧ Since w1 w' := by
 obtain ⟨ok1, os1, m1, bss1, r1, _⟩ := h1
 obtain ⟨ok2, os2, m2, bss2, r2, _⟩ := h2
 obtain ⟨Ao1, co1, As1, cs1, p1, _⟩ := r1.hp
 obtain ⟨Ao2, co2, As2, cs2, p2, _⟩ := r2.hp
 obtain ⟨n1, hn1⟩ : ∃ n, n = os1.length := ⟨_, rfl⟩
 obtain ⟨n2, hn2⟩ : ∃ n, n = os2.length := ⟨_, rfl⟩
 rw [← hn1] at p1
 rw [← hn2] at p2
 have a0 := (rec_of p1).c0
 have a1 := (rec_of p1).c1
 have a2 : W.cell? ⟨b1, 2, none⟩ = some (.slice Ao1 n1 co1) := (Tup.cell_of_heap p1 2).trans rfl
 have a3 : W.cell? ⟨b1, 3, none⟩ = some (.slice As1 n1 cs1) := (Tup.cell_of_heap p1 3).trans rfl
 have a4 : W.cell? ⟨b1, 4, none⟩ = some (.map (some m1)) := (Tup.cell_of_heap p1 4).trans rfl
 have d0 := (rec_of p2).c0
 have d1 := (rec_of p2).c1
 have d2 : W.cell? ⟨b2, 2, none⟩ = some (.slice Ao2 n2 co2) := (Tup.cell_of_heap p2 2).trans rfl
 have d3 : W.cell? ⟨b2, 3, none⟩ = some (.slice As2 n2 cs2) := (Tup.cell_of_heap p2 3).trans rfl
 have d4 : W.cell? ⟨b2, 4, none⟩ = some (.map (some m2)) := (Tup.cell_of_heap p2 4).trans rfl
 have k1 := rok_calls _ b1 a0
 have k2 := rok_calls _ b2 d0
 have he : ((wd : Int) != (wd : Int)) = false := by simp
 have f0 := free_of_heap p1 0
 have f1 := free_of_heap p1 1
 have f2 := free_of_heap p1 2
 have f3 := free_of_heap p1 3
 have f4 := free_of_heap p1 4
 have g0 := free_of_heap p2 0
 have g1 := free_of_heap p2 1
 have g2 := free_of_heap p2 2
 have g3 := free_of_heap p2 3
 have g4 := free_of_heap p2 4
 have hne' : b2 ≠ b1 := fun e => hne e.symm
 have P1 := Aside0.mk p1
 have P2 := Aside0.mk p2
 clear r1 r2 hn1 hn2 p1 p2
 go_enter Tryz.func32, Tryz.ntmps32
 go_wp2_with (first
  | (go_at_call 38; refine k1.mono ?_; clear k1; rintro e w' ⟨rfl, rfl⟩)
  | (go_at_call 38; refine k2.mono ?_; clear k2; rintro e w' ⟨rfl, rfl⟩))
 go_region
 all_goals go_wp2
 all_goals go_region
 all_goals go_wp2
 all_goals go_ret
 obtain ⟨m1', m2'⟩ := put5 W b1 P1.out (.bool true) (.int .i64 (wd : Int)) (.slice Ao2 n2 co2) (.slice As2 n2 cs2) (.map (some m2))
 obtain ⟨X, hX⟩ : ∃ X, X = ((((W.setCell ⟨b1, 0, none⟩ (.bool true)).setCell ⟨b1, 1, none⟩ (.int .i64 (wd : Int))).setCell ⟨b1, 2, none⟩ (.slice Ao2 n2 co2)).setCell ⟨b1, 3, none⟩ (.slice As2 n2 cs2)).setCell ⟨b1, 4, none⟩ (.map (some m2)) := ⟨_, rfl⟩
 rw [← hX] at m1' m2' ⊢
 obtain ⟨n1', n2'⟩ := put5 X b2 ((m2'.heap (Array.getElem?_eq_some_iff.1 P2.out).1 hne').trans P2.out) (.bool true) (.int .i64 (wd : Int)) (.slice Ao1 n1 co1) (.slice As1 n1 cs1) (.map (some m1))
 have hsz := m2'.g.size
 refine ⟨rfl, _, ⟨((KeptS.one m2').mono fun k hk => .inl hk).trans ((KeptS.one n2').mono fun k hk => .inr hk), ?_, ?_⟩, (Since.refl _).drew.drew⟩
 ·exact ((n2'.heap (Array.getElem?_eq_some_iff.1 m1').1 hne).trans m1').trans P2.out.symm
 ·exact n1'.trans P1.out.symm
set_option maxHeartbeats 2000000 in
set_option maxRecDepth 100000 in
theorem rlclear_calls {F : Nat → Prop} (W : World) (b wd : Nat) {R : List Row} (h : RelF F W b wd R) (hF : ∀ k, W.heap.size ≤ k → F k) :
  Calls Tryz.prog 30 #[.pointer (some ⟨b, 0, none⟩)] W fun e w' => e = .returned (.tuple #[]) ∧ RelF F w' b wd [] ∧ KeptS F W w' := by
 obtain ⟨ok, os, m, bss, hR, hk⟩ := h
 obtain ⟨Ao, co, As, cs, hp, h1, h2, h3, h4⟩ := hR.hp
 have k1 := rok_calls W b (rec_of hp).c0
 have HB := Aside0.mk (begin_calls hp hR.hos h3 h1 hR.nr.1)
 have HK := Aside0.mk hk
 clear hR hk hp h1 h2 h3 h4
 go_enter Tryz.func30, Tryz.ntmps30
 go_wp2_with (first
  | (go_at_call 38; refine k1.mono ?_; clear k1; rintro e w' ⟨rfl, rfl⟩)
  | (go_at_call 37; refine HB.out.mono ?_; clear HB; rintro e w1 ⟨rfl, hk1, m2, bss2, hm2, hb2, hR2⟩; have HR := Aside0.mk (And.intro hk1 (And.intro hm2 (And.intro hb2 hR2))); clear hk1 hm2 hb2 hR2))
 go_end0
 refine ⟨rfl, ⟨_, os, m2, bss2, HR.out.2.2.2, fun k hk' => ?_⟩, HR.out.1.mono fun k e => e ▸ HK.out b (.inr (.inl rfl))⟩
 rcases hk' with (h | h) | h | h | h
 ·exact HK.out k (.inl h.1)
 ·exact hF k h.1
 ·exact h ▸ HK.out b (.inr (.inl rfl))
 ·exact h ▸ hF m2 HR.out.2.1
 ·exact hF k (HR.out.2.2.1 k h)
abbrev ST := Nat × List Row
structure Apart (W0 W : World) (bw : Nat) (F1 F2 G1 G2 : Nat → Prop) : Prop where
 f1 : ∀ k, F1 k → (W0.heap.size ≤ k ∧ k < W.heap.size) ∧ ¬ F2 k ∧ ¬ G1 k ∧ ¬ G2 k ∧ k ≠ bw
 f2 : ∀ k, F2 k → (W0.heap.size ≤ k ∧ k < W.heap.size) ∧ ¬ F1 k ∧ ¬ G1 k ∧ ¬ G2 k ∧ k ≠ bw
 g1 : ∀ k, G1 k → (W0.heap.size ≤ k ∧ k < W.heap.size) ∧ ¬ F1 k ∧ ¬ F2 k ∧ ¬ G2 k ∧ k ≠ bw
 g2 : ∀ k, G2 k → (W0.heap.size ≤ k ∧ k < W.heap.size) ∧ ¬ F1 k ∧ ¬ F2 k ∧ ¬ G1 k ∧ k ≠ bw
 w : W0.heap.size ≤ bw ∧ bw < W.heap.size
structure Duo (W0 W : World) (bw i i' bs bo : Nat) (X Y P Q : ST) : Prop where
 ii : (i = 0 ∧ i' = 1) ∨ (i = 1 ∧ i' = 0)
 low : Below W0.heap.size W0 W
 cs : W.cell? ⟨bw, i, none⟩ = some (.pointer (some ⟨bs, 0, none⟩))
 co : W.cell? ⟨bw, i', none⟩ = some (.pointer (some ⟨bo, 0, none⟩))
 fr : ∀ j, W.frozen? ⟨bw, j, none⟩ = false
 ex : ∃ F1 F2 G1 G2, RelF F1 W bs X.1 X.2 ∧ RelF F2 W bo Y.1 Y.2 ∧ (∃ A c es, Ref7 G1 W W0.heap.size bw (2 + 2 * i) P.1 A c es P.2) ∧ (∃ A c es, Ref7 G2 W W0.heap.size bw (2 + 2 * i') Q.1 A c es Q.2) ∧ Apart W0 W bw F1 F2 G1 G2
section
variable {W0 W W1 : World} {bw i i' bs bo : Nat} {X Y P Q : ST} {F1 F2 G1 G2 : Nat → Prop}
theorem Apart.symm (h : Apart W0 W bw F1 F2 G1 G2) : Apart W0 W bw F2 F1 G2 G1 :=
 ⟨fun k hk => by have := h.f2 k hk; exact ⟨this.1, this.2.1, this.2.2.2.1, this.2.2.1, this.2.2.2.2⟩, fun k hk => by have := h.f1 k hk; exact ⟨this.1, this.2.1, this.2.2.2.1, this.2.2.1, this.2.2.2.2⟩,
  fun k hk => by have := h.g2 k hk; exact ⟨this.1, this.2.2.1, this.2.1, this.2.2.2.1, this.2.2.2.2⟩, fun k hk => by have := h.g1 k hk; exact ⟨this.1, this.2.2.1, this.2.1, this.2.2.2.1, this.2.2.2.2⟩, h.w⟩
theorem Apart.size (h : Apart W0 W bw F1 F2 G1 G2) (hs : W.heap.size ≤ W1.heap.size) : Apart W0 W1 bw F1 F2 G1 G2 :=
 ⟨fun k hk => ⟨⟨(h.f1 k hk).1.1, Nat.lt_of_lt_of_le (h.f1 k hk).1.2 hs⟩, (h.f1 k hk).2⟩, fun k hk => ⟨⟨(h.f2 k hk).1.1, Nat.lt_of_lt_of_le (h.f2 k hk).1.2 hs⟩, (h.f2 k hk).2⟩, fun k hk => ⟨⟨(h.g1 k hk).1.1, Nat.lt_of_lt_of_le (h.g1 k hk).1.2 hs⟩, (h.g1 k hk).2⟩, fun k hk => ⟨⟨(h.g2 k hk).1.1, Nat.lt_of_lt_of_le (h.g2 k hk).1.2 hs⟩, (h.g2 k hk).2⟩, h.w.1, Nat.lt_of_lt_of_le h.w.2 hs⟩
theorem Duo.symm (h : Duo W0 W bw i i' bs bo X Y P Q) : Duo W0 W bw i' i bo bs Y X Q P := by
 obtain ⟨F1, F2, G1, G2, h1, h2, h3, h4, h5⟩ := h.ex
 exact ⟨h.ii.elim (fun h => .inr ⟨h.2, h.1⟩) (fun h => .inl ⟨h.2, h.1⟩), h.low, h.co, h.cs, h.fr, F2, F1, G2, G1, h2, h1, h4, h3, h5.symm⟩
theorem Duo.since (h : Duo W0 W bw i i' bs bo X Y P Q) (s : Since W W1) : Duo W0 W1 bw i i' bs bo X Y P Q := by
 obtain ⟨F1, F2, G1, G2, h1, h2, ⟨A, c, es, h3⟩, ⟨A', c', es', h4⟩, h5⟩ := h.ex
 exact ⟨h.ii, below_then h.low h.low.size s.b, pw_cell_below s.b h.cs, pw_cell_below s.b h.co, fun j => (s.b.frozen (p := ⟨bw, j, none⟩) h5.w.2).trans (h.fr j), F1, F2, G1, G2, h1.since s, h2.since s, ⟨A, c, es, h3.since s⟩, ⟨A', c', es', h4.since s⟩, h5.size s.b.size⟩
theorem Duo.rel (h : Duo W0 W bw i i' bs bo X Y P Q) (h2 : RelF F2 W bo Y.1 Y.2) (h3 : ∃ A c es, Ref7 G1 W W0.heap.size bw (2 + 2 * i) P.1 A c es P.2) (h4 : ∃ A c es, Ref7 G2 W W0.heap.size bw (2 + 2 * i') Q.1 A c es Q.2) (h5 : Apart W0 W bw F1 F2 G1 G2) {z : ST} (hR : RelF (Plus F1 W.heap.size) W1 bs z.1 z.2) (hK : KeptS (Plus F1 W.heap.size) W W1) : Duo W0 W1 bw i i' bs bo z Y P Q := by
 obtain ⟨A, c, es, h3⟩ := h3
 obtain ⟨A', c', es', h4⟩ := h4
 have hsz := hK.size
 have hst : ∀ k, k < W.heap.size → ¬ F1 k → W1.heap[k]? = W.heap[k]? := fun k hk hn => hK.same k hk fun h => h.elim hn fun h => by omega
 have hB := hst bw h5.w.2 fun hk => (h5.f1 bw hk).2.2.2.2 rfl
 have hlow : Below W0.heap.size W0 W1 := hK.below_of h.low fun k hk h => h.elim (fun h => by have := (h5.f1 k h).1.1; omega) fun h' => by have := h5.w; omega
 refine ⟨h.ii, hlow, (World.cell?_of_block hB).trans h.cs, (World.cell?_of_block hB).trans h.co, fun j => by simp only [World.frozen?, hB]; exact h.fr j, _, F2, G1, G2, hR.bound, h2.step (fun k hk hlt => hst k hlt (h5.f2 k hk).2.1), ⟨A, c, es, h3.row_step (fun k hk hlt => hst k hlt (h5.g1 k hk).2.1) hB⟩, ⟨A', c', es', h4.row_step (fun k hk hlt => hst k hlt (h5.g2 k hk).2.1) hB⟩, ?_⟩
 refine ⟨fun k hk => ?_, fun k hk => ?_, fun k hk => ?_, fun k hk => ?_, h5.w.1, by have := h5.w.2; omega⟩
 ·rcases hk with ⟨hk | hk, hl⟩
  ·have := h5.f1 k hk
   exact ⟨⟨this.1.1, hl⟩, this.2⟩
  ·refine ⟨⟨by have := h5.w; omega, hl⟩, fun h => ?_, fun h => ?_, fun h => ?_, fun h => by have := h5.w.2; omega⟩
   ·have := (h5.f2 k h).1.2; omega
   ·have := (h5.g1 k h).1.2; omega
   ·have := (h5.g2 k h).1.2; omega
 ·have := h5.f2 k hk
  exact ⟨⟨this.1.1, by omega⟩, fun h => h.1.elim this.2.1 fun h => by omega, this.2.2⟩
 ·have := h5.g1 k hk
  exact ⟨⟨this.1.1, by omega⟩, fun h => h.1.elim this.2.1 fun h => by omega, this.2.2⟩
 ·have := h5.g2 k hk
  exact ⟨⟨this.1.1, by omega⟩, fun h => h.1.elim this.2.1 fun h => by omega, this.2.2⟩
theorem Duo.ref (h : Duo W0 W bw i i' bs bo X Y P Q) (h1 : RelF F1 W bs X.1 X.2) (h2 : RelF F2 W bo Y.1 Y.2) (h4 : ∃ A c es, Ref7 G2 W W0.heap.size bw (2 + 2 * i') Q.1 A c es Q.2) (h5 : Apart W0 W bw F1 F2 G1 G2) {R : List Row} (hR : ∃ A' c' es', Ref7 (Plus G1 W.heap.size) W1 W0.heap.size bw (2 + 2 * i) P.1 A' c' es' R) (hK : PAfter (Plus G1 W.heap.size) bw (2 + 2 * i) W W1) : Duo W0 W1 bw i i' bs bo X Y (P.1, R) Q := by
 obtain ⟨A', c', es', h4⟩ := h4
 have hii := h.ii
 obtain ⟨A2, c2, es2, hR⟩ := hR
 have hsz := hK.k.size
 have hst : ∀ k, k < W.heap.size → ¬ G1 k → k ≠ bw → W1.heap[k]? = W.heap[k]? := fun k hk hn hb => hK.k.same k hk fun h => h.elim hb fun h => h.elim hn fun h => by omega
 have hlow : Below W0.heap.size W0 W1 := hK.k.below_of h.low fun k hk h => h.elim (fun h => by have := h5.w.1; omega) fun h => h.elim (fun h => by have := (h5.g1 k h).1.1; omega) fun h => by have := h5.w; omega
 have hf : ∀ j, W1.frozen? ⟨bw, j, none⟩ = W.frozen? ⟨bw, j, none⟩ := fun j => hK.f j h5.w.2
 refine ⟨h.ii, hlow, hK.c _ (by omega) _ h.cs, hK.c _ (by omega) _ h.co, fun j => (hf j).trans (h.fr j), F1, F2, _, G2, h1.step (fun k hk hlt => hst k hlt (h5.f1 k hk).2.2.1 (h5.f1 k hk).2.2.2.2), h2.step (fun k hk hlt => hst k hlt (h5.f2 k hk).2.2.1 (h5.f2 k hk).2.2.2.2), ⟨A2, c2, es2, hR.bound⟩, ⟨A', c', es', h4.step (fun k hk hlt => hst k hlt (h5.g2 k hk).2.2.2.1 (h5.g2 k hk).2.2.2.2) ((hK.c _ (by omega) _ h4.c0).trans h4.c0.symm) ((hK.c _ (by omega) _ h4.c1).trans h4.c1.symm) (hf _)⟩, ?_⟩
 refine ⟨fun k hk => ?_, fun k hk => ?_, fun k hk => ?_, fun k hk => ?_, h5.w.1, by have := h5.w.2; omega⟩
 ·have := h5.f1 k hk
  exact ⟨⟨this.1.1, by omega⟩, this.2.1, fun h => h.1.elim this.2.2.1 fun h => by omega, this.2.2.2⟩
 ·have := h5.f2 k hk
  exact ⟨⟨this.1.1, by omega⟩, this.2.1, fun h => h.1.elim this.2.2.1 fun h => by omega, this.2.2.2⟩
 ·rcases hk with ⟨hk | hk, hl⟩
  ·have := h5.g1 k hk
   exact ⟨⟨this.1.1, hl⟩, this.2⟩
  ·refine ⟨⟨by have := h5.w; omega, hl⟩, fun h => ?_, fun h => ?_, fun h => ?_, fun h => by have := h5.w.2; omega⟩
   ·have := (h5.f1 k h).1.2; omega
   ·have := (h5.f2 k h).1.2; omega
   ·have := (h5.g2 k h).1.2; omega
 ·have := h5.g2 k hk
  exact ⟨⟨this.1.1, by omega⟩, this.2.1, this.2.2.1, fun h => h.1.elim this.2.2.2.1 fun h => by omega, this.2.2.2.2⟩
end
end Go.Proofs.YtcmllllbmgcnlaaGreat.Rl
end
section
namespace Go.Proofs.YtcmllllbmgcnlaaGreat.Rl
open Go.RowKit Go.Lib Go.Shelf Go.Proofs.YtcmllllbmgcnlaaGreat.G Go.Proofs.YtcmllllbmgcnlaaGreat.Tup Go.Proofs.YtcmllllbmgcnlaaGreatW.PrintWords Go.Proofs.YtcmllllbmgcnlaaGreatW.PrintLast Go.Proofs.YtcmllllbmgcnlaaGreatW.PrintMore
set_option linter.unusedVariables false
set_option linter.unusedSimpArgs false
def DoesR (W0 : World) (bw i i' bs bo : Nat) (e : Ending) (w' : World) : Prop :=
 e = .returned (.bool true) ∧ ∃ X Y, Duo W0 w' bw i i' bs bo X Y X Y
theorem look_dec (R : List Row) (t : Tp) : (lookF R t).isSome = decide (t ∈ keys R) := by
 by_cases h : t ∈ keys R
 ·obtain ⟨n, hn⟩ := lookF_some h
  rw [hn, decide_eq_true h]; rfl
 ·rw [lookF_none.2 h, decide_eq_false h]; rfl
section
variable {W0 W : World} {bw i i' bs bo : Nat} {X Y P Q : ST}
theorem Duo.at (h : Duo W0 W bw i i' bs bo X Y X Y) {At : Option Addr} {ct : Nat} {t : Tp} (st : Sl W0 At ct t) :
  Calls Tryz.prog 56 #[.pointer (some ⟨bw, 2 + 2 * i, none⟩), .slice At t.length ct] W fun e w' => e = .returned (.tuple #[.int .i64 (ratL (plainO X.1) (keys X.2) t : Nat), .bool (decide (t ∈ keys X.2))]) ∧ Since W w' := by
 obtain ⟨F1, F2, G1, G2, h1, h2, ⟨A, c, es, h3⟩, h4, h5⟩ := h.ex
 exact rat7_calls W h3 At ct t (st.below h.low)
theorem Duo.has (h : Duo W0 W bw i i' bs bo X Y X Y) {At : Option Addr} {ct : Nat} {t : Tp} (st : Sl W0 At ct t) :
  Calls Tryz.prog 16 #[.pointer (some ⟨bs, 0, none⟩), .slice At t.length ct] W fun e w' => e = .returned (.bool (decide (t ∈ keys X.2))) ∧ Since W w' := by
 obtain ⟨F1, F2, G1, G2, ⟨ok, os, m, bss, hR, _⟩, _⟩ := h.ex
 rw [← look_dec]
 exact (rhas_calls hR At ct t (st.below h.low)).mono fun e w' h => ⟨h.1, ⟨h.2⟩⟩
theorem Duo.rput (h : Duo W0 W bw i i' bs bo X Y P Q) {At : Option Addr} {ct : Nat} {t : Tp} (st : Sl W0 At ct t) (n : Int × Int) (h1 : rightB n.1 = true) (h2 : rightB n.2 = true) :
  Calls Tryz.prog 27 #[.pointer (some ⟨bw, 2 + 2 * i, none⟩), .int .i64 n.1, .int .i64 n.2, .slice At t.length ct] W fun e w' => e = .returned (.tuple #[.bool (putAns P.1 P.2 t).1, .int .i64 (putAns P.1 P.2 t).2]) ∧ Duo W0 w' bw i i' bs bo X Y (P.1, putTo P.1 P.2 t n) Q := by
 obtain ⟨F1, F2, G1, G2, e1, e2, ⟨A, c, es, e3⟩, e4, e5⟩ := h.ex
 refine (rput7_calls W e3 (fun hk => (e5.g1 bw hk).2.2.2.2 rfl) h.low.size At ct t (st.below h.low) n h1 h2).mono fun e w' hp => ⟨hp.1, h.ref e1 e2 e4 e5 hp.2.1 (hp.2.2.mono fun k hk => .inl (e3.ok0 k hk))⟩
theorem Duo.merge (h : Duo W0 W bw i i' bs bo X Y P Q) (hw : X.1 = Y.1) :
  Calls Tryz.prog 29 #[.pointer (some ⟨bs, 0, none⟩), .pointer (some ⟨bo, 0, none⟩)] W fun e w' => e = .returned (.tuple #[.int .i64 ((mergeR X.1 X.2 0 Y.2).1 : Int), .int .i64 (mergeR X.1 X.2 0 Y.2).2.1]) ∧ Duo W0 w' bw i i' bs bo (X.1, (mergeR X.1 X.2 0 Y.2).2.2) Y P Q := by
 obtain ⟨F1, F2, G1, G2, e1, e2, e3, e4, e5⟩ := h.ex
 have e2' := e2
 rw [← hw] at e2'
 exact (rlmerge_main W bs bo X.1 (e1.mono fun k hk => .inl hk : RelF (Plus F1 W.heap.size) W bs X.1 X.2) e2' (fun k hk hl => hk.elim (fun hk => (e5.f1 k hk).2.1) fun hk => by omega) (fun k hk => .inr hk)).mono fun e w' hp => ⟨hp.1, h.rel e2 e3 e4 e5 hp.2.1 hp.2.2⟩
theorem Duo.merge_no (h : Duo W0 W bw i i' bs bo X Y P Q) (hw : X.1 ≠ Y.1) :
  Calls Tryz.prog 29 #[.pointer (some ⟨bs, 0, none⟩), .pointer (some ⟨bo, 0, none⟩)] W fun e w' => e = .returned (.tuple #[.int .i64 0, .int .i64 14]) ∧ Since W w' := by
 obtain ⟨F1, F2, G1, G2, e1, e2, e3, e4, e5⟩ := h.ex
 exact (rlmerge_width W bs bo X.1 Y.1 e1 e2 hw).mono fun e w' hp => ⟨hp.1, ⟨hp.2⟩⟩
theorem Duo.rmerge (h : Duo W0 W bw i i' bs bo X Y P Q) (hw : P.1 = Q.1) (A3 : Option Addr) (n3 c3 : Nat) (hc : W.cell? ⟨bw, 2 + 2 * i' + 1, none⟩ = some (.slice A3 n3 c3)) :
  Calls Tryz.prog 58 #[.pointer (some ⟨bw, 2 + 2 * i, none⟩), .agg #[.int .i64 (P.1 : Int), .slice A3 n3 c3]] W fun e w' => e = .returned (.tuple #[.int .i64 ((mergeR P.1 P.2 0 Q.2).1 : Int), .int .i64 (mergeR P.1 P.2 0 Q.2).2.1]) ∧ Duo W0 w' bw i i' bs bo X Y (P.1, (mergeR P.1 P.2 0 Q.2).2.2) Q := by
 obtain ⟨F1, F2, G1, G2, e1, e2, ⟨A, c, es, e3⟩, ⟨A', c', es', e4⟩, e5⟩ := h.ex
 have hcc := e4.c1
 rw [hc] at hcc
 injection hcc with hcc
 injection hcc with q1 q2 q3
 subst q1 q2 q3
 have hr2 : RowsOk P.1 Q.2 := by rw [hw]; exact e4.hR
 have hst : ∀ w', PAfter (Plus G1 W.heap.size) bw (2 + 2 * i) W w' → ∀ k, G2 k → w'.heap[k]? = W.heap[k]? := fun w' hP k hk => hP.k.same k (e5.g2 k hk).1.2 fun hS => hS.elim (e5.g2 k hk).2.2.2.2 fun hS => hS.elim (e5.g2 k hk).2.2.2.1 fun hS => by have := (e5.g2 k hk).1.2; omega
 refine (rmerge7_main W (e3.mono fun k hk => .inl hk : Ref7 (Plus G1 W.heap.size) W W0.heap.size bw (2 + 2 * i) P.1 A c es P.2) (fun hk => hk.elim (fun hk => (e5.g1 bw hk).2.2.2.2 rfl) fun hk => by have := e5.w; omega) h.low.size (fun k hk => .inr hk) A3 c3 Q.2 hr2 W0.heap.size es' e4.row fun w' hP => ⟨own_move e4.own fun k hk => hst w' hP k (e4.ok0 k hk), fun e he => own_move (e4.el e he) fun k hk => hst w' hP k (e4.okE e he k hk)⟩).mono fun e w' hp => ⟨hp.1, h.ref e1 e2 ⟨A3, c3, es', e4⟩ e5 hp.2.1 hp.2.2⟩
theorem Duo.rmerge_no (h : Duo W0 W bw i i' bs bo X Y P Q) (w2 : Nat) (hw : P.1 ≠ w2) (A3 : Option Addr) (n3 c3 : Nat) :
  Calls Tryz.prog 58 #[.pointer (some ⟨bw, 2 + 2 * i, none⟩), .agg #[.int .i64 (w2 : Int), .slice A3 n3 c3]] W fun e w' => e = .returned (.tuple #[.int .i64 0, .int .i64 14]) ∧ Since W w' := by
 obtain ⟨F1, F2, G1, G2, e1, e2, ⟨A, c, es, e3⟩, e4, e5⟩ := h.ex
 exact rmerge7_width W e3 w2 A3 n3 c3 hw
theorem Duo.clear (h : Duo W0 W bw i i' bs bo X Y P Q) :
  Calls Tryz.prog 30 #[.pointer (some ⟨bs, 0, none⟩)] W fun e w' => e = .returned (.tuple #[]) ∧ Duo W0 w' bw i i' bs bo (X.1, []) Y P Q := by
 obtain ⟨F1, F2, G1, G2, e1, e2, e3, e4, e5⟩ := h.ex
 exact (rlclear_calls W bs X.1 (e1.mono fun k hk => .inl hk : RelF (Plus F1 W.heap.size) W bs X.1 X.2) (fun k hk => .inr hk)).mono fun e w' hp => ⟨hp.1, h.rel e2 e3 e4 e5 hp.2.1 hp.2.2⟩
end
end Go.Proofs.YtcmllllbmgcnlaaGreat.Rl
end
section
namespace Go.Proofs.YtcmllllbmgcnlaaGreat.Rl
open Go.RowKit Go.Lib Go.Shelf Go.Proofs.YtcmllllbmgcnlaaGreat.G Go.Proofs.YtcmllllbmgcnlaaGreat.Tup Go.Proofs.YtcmllllbmgcnlaaGreatW.PrintWords Go.Proofs.YtcmllllbmgcnlaaGreatW.PrintLast Go.Proofs.YtcmllllbmgcnlaaGreatW.PrintMore
set_option linter.unusedVariables false
set_option linter.unusedSimpArgs false
section
variable {W0 W : World} {bw i i' bs bo : Nat} {X Y P Q : ST}
theorem Duo.note (h : Duo W0 W bw i i' bs bo X Y P Q) {At : Option Addr} {ct : Nat} {t : Tp} (st : Sl W0 At ct t) :
  Calls Tryz.prog 24 #[.pointer (some ⟨bs, 0, none⟩), .slice At t.length ct] W fun e w' => e = .returned (.tuple #[noteOf (lookF X.2 t), .bool (lookF X.2 t).isSome]) ∧ Since W w' := by
 obtain ⟨F1, F2, G1, G2, ⟨ok, os, m, bss, hR, _⟩, _⟩ := h.ex
 exact (rnote_calls hR At ct t (st.below h.low)).mono fun e w' h => ⟨h.1, ⟨h.2⟩⟩
theorem Duo.rows (h : Duo W0 W bw i i' bs bo X Y P Q) : RowsOk X.1 X.2 ∧ X.1 ≤ 8 := by
 obtain ⟨F1, F2, G1, G2, e1, _⟩ := h.ex
 exact ⟨e1.rows, e1.w8⟩
theorem Duo.find (h : Duo W0 W bw i i' bs bo X Y P Q) (cols : Int) {At : Option Addr} {ct : Nat} {t : Tp} (st : Sl W0 At ct t) (hz : t.length * 8 ≤ 140737488351232) :
  Calls Tryz.prog 22 #[.pointer (some ⟨bs, 0, none⟩), .int .i64 cols, .slice At t.length ct] W fun e w' => ∃ lb : Array Value, e = .returned (.func (.func 45) #[] lb) ∧ Since W w' ∧ Aside0 (∀ w3, Since w' w3 → Seq2R Fence.wide Tryz.prog 45 lb (findL X.1 X.2 cols t) w3) := by
 obtain ⟨F1, F2, G1, G2, ⟨ok, os, m, bss, hR, _⟩, _⟩ := h.ex
 refine (rfind_calls W (some ⟨bs, 0, none⟩) cols At ct t (st.below h.low) hz).mono ?_
 rintro e w' ⟨q1, q2, q3, Ak, ck, rfl, e1, e2, e3, hck, hF, hb⟩
 refine ⟨_, rfl, ⟨hb⟩, ⟨fun w3 hs => ?_⟩⟩
 exact seq2R_later (rfind_seq (hR.below hb) q1 q2 q3 e1 cols e2 Ak ck t e3 ⟨Kd.F_now hF, hck⟩) hs.b
theorem Duo.rfind (h : Duo W0 W bw i i' bs bo X Y P Q) (cols : Int) {At : Option Addr} {ct : Nat} {t : Tp} (st : Sl W0 At ct t) :
  Calls Tryz.prog 57 #[.pointer (some ⟨bw, 2 + 2 * i, none⟩), .int .i64 cols, .slice At t.length ct] W (RowsC W (findL P.1 P.2 cols t).length (findL P.1 P.2 cols t)) := by
 obtain ⟨F1, F2, G1, G2, e1, e2, ⟨A, c, es, e3⟩, e4, e5⟩ := h.ex
 exact rrfind_calls W e3 cols At ct t (st.below h.low)
theorem found_walked {wd : Nat} {R : List Row} (hR : RowsOk wd R) (h8 : wd ≤ 8) (cols : Int) (t : Tp) (w : World) (lb : Array Value) (hs : Seq2R Fence.wide Tryz.prog 45 lb (findL wd R cols t) w) (A : Option Addr) (m c : Nat) (hm : (findL wd R cols t).length = m) (hC : Kd.C KR w A m (findL wd R cols t)) :
  Calls Tryz.prog 28 #[.func (.func 45) #[] lb, .slice A m c] w fun e w' => e = .returned (.bool true) ∧ Since w w' := by
 subst hm
 have h := walked_calls w _ lb find_enters _ (fun x hx => hR.nt x (findL_sub hx)) (fun x hx => by have := hR.wd x (findL_sub hx); omega) (Nat.le_trans (findL_len _ _ _ _) hR.le) hs A c (findL wd R cols t) hC
 rw [decide_eq_true rfl] at h
 exact h.mono fun e w' h => ⟨h.1, ⟨h.2⟩⟩
theorem Duo.swap (h : Duo W0 W bw i i' bs bo X Y P Q) (hw : X.1 = Y.1) :
  Calls Tryz.prog 32 #[.pointer (some ⟨bs, 0, none⟩), .pointer (some ⟨bo, 0, none⟩)] W fun e w' => e = .returned (.int .i64 0) ∧ Duo W0 w' bw i i' bs bo Y X P Q := by
 obtain ⟨F1, F2, G1, G2, e1, e2, ⟨A, c, es, e3⟩, ⟨A', c', es', e4⟩, e5⟩ := h.ex
 have e2' := e2
 rw [← hw] at e2'
 have s1 := e1.self
 have s2 := e2.self
 have hne : bs ≠ bo := fun e => (e5.f1 bs s1).2.1 (e ▸ s2)
 refine (rlswap_same W bs bo X.1 e1 e2' hne).mono ?_
 rintro e w' ⟨rfl, w1, hS, hs⟩
 refine ⟨rfl, Duo.since ?_ hs⟩
 have f1 := e5.f1 bs s1
 have f2 := e5.f2 bo s2
 have hS' : Swapped bo bs W w1 := ⟨hS.k.mono fun k hk => hk.symm, hS.y, hS.x⟩
 have hsz := hS.k.size
 have hk : ∀ k, k < W.heap.size → k ≠ bs → k ≠ bo → w1.heap[k]? = W.heap[k]? := fun k hl h1 h2 => hS.k.same k hl fun h => h.elim h1 h2
 have hB := hk bw e5.w.2 (fun e => f1.2.2.2.2 e.symm) fun e => f2.2.2.2.2 e.symm
 have hg1 : ∀ k, G1 k → k < W.heap.size → w1.heap[k]? = W.heap[k]? := fun k hg hl => hk k hl (fun e => f1.2.2.1 (e ▸ hg)) fun e => f2.2.2.1 (e ▸ hg)
 have hg2 : ∀ k, G2 k → k < W.heap.size → w1.heap[k]? = W.heap[k]? := fun k hg hl => hk k hl (fun e => f1.2.2.2.1 (e ▸ hg)) fun e => f2.2.2.2.1 (e ▸ hg)
 refine ⟨h.ii, hS.k.below_of h.low fun k hk h => h.elim (fun e => by have := f1.1.1; omega) fun e => by have := f2.1.1; omega, (World.cell?_of_block hB).trans h.cs, (World.cell?_of_block hB).trans h.co, fun j => by simp only [World.frozen?, hB]; exact h.fr j, _, _, G1, G2, e2.swapped (fun k hk => (e5.f1 k hk).2.1) s1 hS, e1.swapped (fun k hk => (e5.f2 k hk).2.1) s2 hS', ⟨A, c, es, e3.row_step hg1 hB⟩, ⟨A', c', es', e4.row_step hg2 hB⟩, ?_⟩
 refine ⟨fun k hk => ?_, fun k hk => ?_, fun k hk => ?_, fun k hk => ?_, e5.w.1, by have := e5.w.2; omega⟩
 ·rcases hk with ⟨hk, hn⟩ | rfl
  ·have := e5.f2 k hk
   exact ⟨⟨this.1.1, by omega⟩, fun h => h.elim (fun h => this.2.1 h.1) hn, this.2.2⟩
  ·exact ⟨⟨f1.1.1, by omega⟩, fun h => h.elim (fun h => h.2 rfl) hne, f1.2.2⟩
 ·rcases hk with ⟨hk, hn⟩ | rfl
  ·have := e5.f1 k hk
   exact ⟨⟨this.1.1, by omega⟩, fun h => h.elim (fun h => this.2.1 h.1) hn, this.2.2⟩
  ·exact ⟨⟨f2.1.1, by omega⟩, fun h => h.elim (fun h => h.2 rfl) hne.symm, f2.2.2⟩
 ·have := e5.g1 k hk
  exact ⟨⟨this.1.1, by omega⟩, fun h => h.elim (fun h => this.2.2.1 h.1) (fun e => f1.2.2.1 (e ▸ hk)), fun h => h.elim (fun h => this.2.1 h.1) (fun e => f2.2.2.1 (e ▸ hk)), this.2.2.2⟩
 ·have := e5.g2 k hk
  exact ⟨⟨this.1.1, by omega⟩, fun h => h.elim (fun h => this.2.2.1 h.1) (fun e => f1.2.2.2.1 (e ▸ hk)), fun h => h.elim (fun h => this.2.1 h.1) (fun e => f2.2.2.2.1 (e ▸ hk)), this.2.2.2⟩
theorem Duo.swap_no (h : Duo W0 W bw i i' bs bo X Y P Q) (hw : X.1 ≠ Y.1) :
  Calls Tryz.prog 32 #[.pointer (some ⟨bs, 0, none⟩), .pointer (some ⟨bo, 0, none⟩)] W fun e w' => e = .returned (.int .i64 14) ∧ Since W w' := by
 obtain ⟨F1, F2, G1, G2, e1, e2, e3, e4, e5⟩ := h.ex
 exact rlswap_width W bs bo X.1 Y.1 e1 e2 hw
theorem Duo.rclear (h : Duo W0 W bw i i' bs bo X Y P Q) : Duo W0 (W.setCell ⟨bw, 2 + 2 * i + 1, none⟩ (.slice none 0 0)) bw i i' bs bo X Y (P.1, []) Q := by
 obtain ⟨F1, F2, G1, G2, e1, e2, ⟨A, c, es, e3⟩, e4, e5⟩ := h.ex
 have hK : PAfter (Plus G1 W.heap.size) bw (2 + 2 * i) W (W.setCell ⟨bw, 2 + 2 * i + 1, none⟩ (.slice none 0 0)) := .set (Since.refl W) _
 have hne : (⟨bw, 2 + 2 * i, none⟩ : Addr) ≠ ⟨bw, 2 + 2 * i + 1, none⟩ := fun e => by injection e; omega
 refine h.ref e1 e2 e4 e5 ⟨none, 0, [], ?_, World.cell?_setCell_same _ _ _ e3.c1, (hK.f _ e5.w.2).trans e3.fz, World.ownsRow_nil _ _ _ _, (fun k hk => by cases hk), (fun e he => by cases he), (fun e he => by cases he), rfl, e3.h8, ⟨by exact List.Pairwise.nil, by simp, by simp, by simp⟩⟩ hK
 rw [World.cell?_setCell_other _ _ _ _ (fun e => hne e.symm)]
 exact e3.c0
theorem Duo.rcell (h : Duo W0 W bw i i' bs bo X Y P Q) : ∃ A c, W.cell? ⟨bw, 2 + 2 * i, none⟩ = some (.int .i64 (P.1 : Int)) ∧ W.cell? ⟨bw, 2 + 2 * i + 1, none⟩ = some (.slice A P.2.length c) := by
 obtain ⟨F1, F2, G1, G2, e1, e2, ⟨A, c, es, e3⟩, e4, e5⟩ := h.ex
 exact ⟨A, c, e3.c0, e3.c1⟩
theorem Duo.rswap (h : Duo W0 W bw 0 1 bs bo X Y P Q) (hw : P.1 = Q.1) {A0 : Option Addr} {n0 c0 : Nat} {A1 : Option Addr} {n1 c1 : Nat} (k3 : W.cell? ⟨bw, 3, none⟩ = some (.slice A0 n0 c0)) (k5 : W.cell? ⟨bw, 5, none⟩ = some (.slice A1 n1 c1)) :
  Duo W0 ((((W.setCell ⟨bw, 2, none⟩ (.int .i64 (P.1 : Int))).setCell ⟨bw, 3, none⟩ (.slice A1 n1 c1)).setCell ⟨bw, 4, none⟩ (.int .i64 (P.1 : Int))).setCell ⟨bw, 5, none⟩ (.slice A0 n0 c0)) bw 0 1 bs bo X Y Q P := by
 obtain ⟨F1, F2, G1, G2, e1, e2, ⟨A, c, es, e3⟩, ⟨A', c', es', e4⟩, e5⟩ := h.ex
 have q3 := e3.c1
 have q5 := e4.c1
 have q2 := e3.c0
 have q4 := e4.c0
 simp only [Nat.reduceMul, Nat.reduceAdd] at q2 q3 q4 q5
 rw [k3] at q3
 rw [k5] at q5
 injection q3 with q3
 injection q3 with a1 a2 a3
 injection q5 with q5
 injection q5 with b1 b2 b3
 subst a1 a2 a3 b1 b2 b3
 obtain ⟨w', hw'⟩ : ∃ w', w' = (((W.setCell ⟨bw, 2, none⟩ (.int .i64 (P.1 : Int))).setCell ⟨bw, 3, none⟩ (.slice A1 Q.2.length c1)).setCell ⟨bw, 4, none⟩ (.int .i64 (P.1 : Int))).setCell ⟨bw, 5, none⟩ (.slice A0 P.2.length c0) := ⟨_, rfl⟩
 rw [← hw']
 have hk1 : Kept1 bw W w' := by rw [hw']; exact (((Kept1.set bw W 2 _).trans (Kept1.set bw _ 3 _)).trans (Kept1.set bw _ 4 _)).trans (Kept1.set bw _ 5 _)
 have hne : ∀ (a b : Nat), a ≠ b → (⟨bw, a, none⟩ : Addr) ≠ ⟨bw, b, none⟩ := fun a b hab e => by injection e with _ e _; exact hab e
 have g : ∀ j v, (j ≠ 2 ∧ j ≠ 3 ∧ j ≠ 4 ∧ j ≠ 5) → W.cell? ⟨bw, j, none⟩ = some v → w'.cell? ⟨bw, j, none⟩ = some v := fun j v hj hv => by
  rw [hw', World.cell?_setCell_other _ _ _ _ (hne _ _ hj.2.2.2.symm), World.cell?_setCell_other _ _ _ _ (hne _ _ hj.2.2.1.symm), World.cell?_setCell_other _ _ _ _ (hne _ _ hj.2.1.symm), World.cell?_setCell_other _ _ _ _ (hne _ _ hj.1.symm)]
  exact hv
 have r5 : w'.cell? ⟨bw, 5, none⟩ = some (.slice A0 P.2.length c0) := by
  rw [hw']
  exact World.cell?_setCell_same _ _ _ (by rw [World.cell?_setCell_other _ _ _ _ (hne 4 5 (by decide)), World.cell?_setCell_other _ _ _ _ (hne 3 5 (by decide)), World.cell?_setCell_other _ _ _ _ (hne 2 5 (by decide))]; exact k5)
 have r4 : w'.cell? ⟨bw, 4, none⟩ = some (.int .i64 (P.1 : Int)) := by
  rw [hw', World.cell?_setCell_other _ _ _ _ (hne 5 4 (by decide))]
  exact World.cell?_setCell_same _ _ _ (by rw [World.cell?_setCell_other _ _ _ _ (hne 3 4 (by decide)), World.cell?_setCell_other _ _ _ _ (hne 2 4 (by decide))]; exact q4)
 have r3 : w'.cell? ⟨bw, 3, none⟩ = some (.slice A1 Q.2.length c1) := by
  rw [hw', World.cell?_setCell_other _ _ _ _ (hne 5 3 (by decide)), World.cell?_setCell_other _ _ _ _ (hne 4 3 (by decide))]
  exact World.cell?_setCell_same _ _ _ (by rw [World.cell?_setCell_other _ _ _ _ (hne 2 3 (by decide))]; exact k3)
 have r2 : w'.cell? ⟨bw, 2, none⟩ = some (.int .i64 (P.1 : Int)) := by
  rw [hw', World.cell?_setCell_other _ _ _ _ (hne 5 2 (by decide)), World.cell?_setCell_other _ _ _ _ (hne 4 2 (by decide)), World.cell?_setCell_other _ _ _ _ (hne 3 2 (by decide))]
  exact World.cell?_setCell_same _ _ _ q2
 have hf : ∀ j, w'.frozen? ⟨bw, j, none⟩ = false := fun j => by rw [hw', World.frozen?_setCell, World.frozen?_setCell, World.frozen?_setCell, World.frozen?_setCell]; exact h.fr j
 have hst : ∀ k, k < W.heap.size → k ≠ bw → w'.heap[k]? = W.heap[k]? := fun k hl hn => hk1.heap hl hn
 have hsz := hk1.g.size
 refine ⟨h.ii, (KeptS.one hk1).below_of h.low fun k hk e => by have := e5.w; omega, g 0 _ (by decide) h.cs, g 1 _ (by decide) h.co, hf, F1, F2, G2, G1, e1.step (fun k hk hl => hst k hl (e5.f1 k hk).2.2.2.2), e2.step (fun k hk hl => hst k hl (e5.f2 k hk).2.2.2.2), ⟨A1, c1, es', ?_⟩, ⟨A0, c0, es, ?_⟩, ?_⟩
 ·exact ⟨by rw [← hw]; exact r2, r3, hf _, own_move e4.own fun k hk => hst k (Tup.own_lt e4.own k hk.symm) (e5.g2 k (e4.ok0 k hk)).2.2.2.2, e4.ok0, fun e he => own_move (e4.el e he) fun k hk => hst k (Tup.own_lt (e4.el e he) k hk.symm) (e5.g2 k (e4.okE e he k hk)).2.2.2.2, e4.okE, e4.row, e4.h8, e4.hR⟩
 ·exact ⟨r4, r5, hf _, own_move e3.own fun k hk => hst k (Tup.own_lt e3.own k hk.symm) (e5.g1 k (e3.ok0 k hk)).2.2.2.2, e3.ok0, fun e he => own_move (e3.el e he) fun k hk => hst k (Tup.own_lt (e3.el e he) k hk.symm) (e5.g1 k (e3.okE e he k hk)).2.2.2.2, e3.okE, e3.row, e3.h8, e3.hR⟩
 ·exact Apart.size ⟨fun k hk => by have := e5.f1 k hk; exact ⟨this.1, this.2.1, this.2.2.2.1, this.2.2.1, this.2.2.2.2⟩, fun k hk => by have := e5.f2 k hk; exact ⟨this.1, this.2.1, this.2.2.2.1, this.2.2.1, this.2.2.2.2⟩, e5.g2, e5.g1, e5.w⟩ hsz
end
end Go.Proofs.YtcmllllbmgcnlaaGreat.Rl
end
section
namespace Go.Proofs.YtcmllllbmgcnlaaGreat.Rl
open Go.RowKit Go.Lib Go.Shelf Go.Proofs.YtcmllllbmgcnlaaGreat.G Go.Proofs.YtcmllllbmgcnlaaGreat.Tup Go.Proofs.YtcmllllbmgcnlaaGreatW.PrintWords Go.Proofs.YtcmllllbmgcnlaaGreatW.PrintLast Go.Proofs.YtcmllllbmgcnlaaGreatW.PrintMore
open Go.Proofs.YtcmllllbmgcnlaaGreat.Ch (rwrongS pickS pickS_some)
set_option linter.unusedVariables false
set_option linter.unusedSimpArgs false
set_option maxHeartbeats 4000000 in
set_option maxRecDepth 100000 in
theorem right_calls (W : World) (n : Int) : Calls Tryz.prog 19 #[.int .i64 n] W fun e w' => e = .returned (.bool (rightB n)) ∧ W = w' := by
 have e : rightB n = (decide (n ≥ -1125899906842624) && decide (n ≤ 1125899906842624)) := by
  unfold rightB
  by_cases h1 : n < -1125899906842624 <;> by_cases h2 : n > 1125899906842624 <;> simp [h1, h2] <;> omega
 rw [e]
 cases c1 : decide (n ≥ -1125899906842624) <;> cases c2 : decide (n ≤ 1125899906842624)
 all_goals
  go_enter Tryz.func19, Tryz.ntmps19
  go_wp2
  go_ret
  exact ⟨rfl, rfl⟩
end Go.Proofs.YtcmllllbmgcnlaaGreat.Rl
end
