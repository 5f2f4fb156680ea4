/- BtreePlays, plain: what the reference's Range, From and Merge say. (*Set).Clear, (*Set).Swap. (*Set).Merge. The reference's Range and From. The reference's Merge. BtreePlays: two sets and the document's two. (*two).does: has, range, from. (*two).does: insert, clear. (*two).does: merge, swap. (*two).stands. vestrylaw05.begun. BtreePlays: the walk. BtreePlays: how a script is opened. The statement BtreePlays: whatever the input, the law answers true, and the input reads as it did. Conditions: none. -/
import Derived.Test.YtcmllllbmgcnlaaKjPlays
import Derived.Test.YtcmllllbmgcnlaaK6
import Derived.Test.YtcmllllbmgcnlaaRows
import Derived.WalkKit
import Derived.ProofKit
import Derived.OpenShut
import Derived.ShutString
import Derived.ChangeOld
import Derived.Below
import Derived.SizedLaws
import Derived.Test.YtcmllllbmgcnlaaWSized
namespace Go.Proofs.Ytcmllllbmgcnlaa.Tup
open Go.RowKit Go.Lib Go.Shelf Go.Proofs.Ytcmllllbmgcnlaa.F Go.Proofs.YtcmllllbmgcnlaaW.PrintWords Go.Proofs.YtcmllllbmgcnlaaW.PrintLast Go.Proofs.YtcmllllbmgcnlaaW.PrintMore
set_option linter.unusedVariables false
set_option linter.unusedSimpArgs false

theorem headL_iff (o a b : Tp) : ∀ m : Nat, headL m o a b = true ↔ ∀ c ∈ o.take m, rd a c = rd b c := by
  induction o with
  | nil => intro m; cases m <;> simp [headL]
  | cons c o ih =>
    intro m
    cases m with
    | zero => simp [headL]
    | succ m => simp [headL, ih m]
theorem headL_cmp (o a b : Tp) (m : Nat) : headL m o a b = true ↔ cmpL (o.take m) a b = 0 := (headL_iff o a b m).trans (cmpL_zero _ a b).symm

/-- In a list where what is left out comes first and what is taken comes then. -/
theorem take_filter {α : Type} {R : α → α → Prop} {p h : α → Bool} : ∀ {L : List α}, L.Pairwise R → (∀ x ∈ L, h x = true → p x = false) → (∀ x ∈ L, ∀ y ∈ L, R x y → p x = false → h x = false → h y = false) → (L.filter fun x => !p x).takeWhile h = L.filter h
  | [], _, _, _ => rfl
  | x :: L, hR, h1, h2 => by
    obtain ⟨hx, hL⟩ := List.pairwise_cons.1 hR
    have ih := take_filter (p := p) (h := h) hL (fun y hy => h1 y (List.mem_cons_of_mem _ hy)) (fun y hy z hz => h2 y (List.mem_cons_of_mem _ hy) z (List.mem_cons_of_mem _ hz))
    cases hp : p x with
    | true =>
      have hh : h x = false := by
        cases hc : h x with
        | false => rfl
        | true => rw [h1 x (by simp) hc] at hp; cases hp
      rw [List.filter_cons_of_neg (by simp [hp]), List.filter_cons_of_neg (by simp [hh]), ih]
    | false =>
      rw [List.filter_cons_of_pos (by simp [hp])]
      cases hc : h x with
      | true => rw [List.takeWhile_cons_of_pos hc, List.filter_cons_of_pos hc, ih]
      | false =>
        rw [List.takeWhile_cons_of_neg (by simp [hc]), List.filter_cons_of_neg (by simp [hc])]
        symm
        rw [List.filter_eq_nil_iff]
        intro y hy
        rw [h2 x (by simp) y (List.mem_cons_of_mem _ hy) (hx y hy) hp hc]
        decide

/-- Range: the reference's. -/
theorem range_ref {o key : Tp} {L : List Tp} (k : Int) (hr : Rt o) (hf : ∀ a ∈ L, Fit o a) (hu : Up o L) : rangeL o k key L = L.filter fun x => headS o k x key := by
  unfold rangeL
  by_cases hk : key.length = o.length
  · rw [if_pos hk]
    have hfk : Fit o key := ⟨hk, hr⟩
    have hh : ∀ x ∈ L, (headS o k x key = true ↔ cmpL (o.take k.toNat) x key = 0) := fun x hx => by
      unfold headS
      rw [decide_eq_true (show Fit o x ∧ Fit o key from ⟨hf x hx, hfk⟩), Bool.true_and, headL_cmp]
    refine take_filter hu (fun x hx h => ?_) (fun x hx y hy hxy hp hn => ?_)
    · have := (hh x hx).1 h
      unfold pR
      rw [this]; rfl
    · cases hc : headS o k y key with
      | false => rfl
      | true =>
        have h1 := (hh y hy).1 hc
        have h2 : cmpL (o.take k.toNat) x y ≤ 0 := cmpL_take k.toNat (by have : cmpL o x y < 0 := hxy; omega)
        have h3 := cmpL_trans (o.take k.toNat) x y key h2 (by omega)
        have h4 : ¬ cmpL (o.take k.toNat) x key < 0 := by unfold pR at hp; simpa using hp
        have h5 : headS o k x key = true := (hh x hx).2 (by omega)
        rw [h5] at hn; cases hn
  · rw [if_neg hk]
    symm
    rw [List.filter_eq_nil_iff]
    intro x _
    unfold headS
    rw [decide_eq_false (fun h : Fit o x ∧ Fit o key => hk h.2.1)]
    simp

/-- From: the reference's. -/
theorem from_ref {o key : Tp} {L : List Tp} (hr : Rt o) (hf : ∀ a ∈ L, Fit o a) (hu : Up o L) (hk : key.length = o.length) : fromL o key L = L.drop (ratL o L key) := by
  unfold fromL
  rw [if_pos hk, sel_drop hu (fun x y hx hy hxy hy' => pF_closed ⟨hk, hr⟩ (hf x hx) (hf y hy) hxy hy')]
  unfold ratL
  have : ∀ (p : Tp → Bool) (M : List Tp), M.dropWhile p = M.drop (M.takeWhile p).length := fun p M => by
    induction M with
    | nil => rfl
    | cons a M ih =>
      by_cases h : p a = true
      · rw [List.dropWhile_cons_of_pos h, List.takeWhile_cons_of_pos h, List.length_cons, List.drop_succ_cons, ih]
      · rw [List.dropWhile_cons_of_neg h, List.takeWhile_cons_of_neg h]; rfl
  exact this _ L
theorem from_no {o key : Tp} {L : List Tp} (hk : key.length ≠ o.length) : fromL o key L = [] := by unfold fromL; rw [if_neg hk]

/-- Merge: how many came, the error, and what is there then. -/
def mergeS (o : Tp) : List Tp → Nat → List Tp → Nat × Nat × List Tp
  | L, n, [] => (n, 0, L)
  | L, n, t :: M => if (insAns o L t).2 ≠ 0 then (n, (insAns o L t).2, L) else mergeS o (insTo o L t) (if (insAns o L t).1 then n + 1 else n) M
theorem mergeS_stop {o : Tp} {L : List Tp} {n : Nat} {t : Tp} {M : List Tp} (h : (insAns o L t).2 ≠ 0) : mergeS o L n (t :: M) = (n, (insAns o L t).2, L) := by
  simp only [mergeS]; rw [if_pos h]
theorem mergeS_go {o : Tp} {L : List Tp} {n : Nat} {t : Tp} {M : List Tp} (h : (insAns o L t).2 = 0) : mergeS o L n (t :: M) = mergeS o (insTo o L t) (if (insAns o L t).1 then n + 1 else n) M := by
  simp only [mergeS]; rw [if_neg (by omega)]
theorem insTo_err {o : Tp} {L : List Tp} {t : Tp} (h : (insAns o L t).2 ≠ 0) : insTo o L t = L := by
  unfold insTo
  have : (insAns o L t).1 = false := by
    unfold insAns at h ⊢
    by_cases h1 : t.length ≠ o.length
    · simp [h1]
    · by_cases h2 : t ∈ L
      · simp [h1, h2]
      · by_cases h3 : 1024 ≤ L.length
        · simp [h1, h2, h3]
        · simp [h1, h2, h3] at h
  rw [this]; rfl
theorem mergeS_le (o : Tp) : ∀ (M L : List Tp) (n : Nat), (mergeS o L n M).1 ≤ n + M.length
  | [], L, n => by simp [mergeS]
  | t :: M, L, n => by
    by_cases h : (insAns o L t).2 = 0
    · rw [mergeS_go h]
      have := mergeS_le o M (insTo o L t) (if (insAns o L t).1 then n + 1 else n)
      have h2 : (if (insAns o L t).1 = true then n + 1 else n) ≤ n + 1 := by split <;> omega
      simp only [List.length_cons]
      omega
    · rw [mergeS_stop h]; simp

end Go.Proofs.Ytcmllllbmgcnlaa.Tup

namespace Go.Proofs.Ytcmllllbmgcnlaa.Tup
open Go.RowKit Go.Lib Go.Shelf Go.Proofs.Ytcmllllbmgcnlaa.F Go.Proofs.YtcmllllbmgcnlaaW.PrintWords Go.Proofs.YtcmllllbmgcnlaaW.PrintLast Go.Proofs.YtcmllllbmgcnlaaW.PrintMore
set_option linter.unusedVariables false
set_option linter.unusedSimpArgs false

set_option maxHeartbeats 2000000 in
set_option maxRecDepth 100000 in
theorem clear_calls {ok : Nat → Prop} (W : World) (bs : Nat) {A : Option Addr} {c : Nat} {o : Tp} {rt : Nat} {T : BT} (h : SetAt ok W bs A c o rt T) :
    Calls Try.prog 36 #[.pointer (some ⟨bs, 0, none⟩)] W fun e w' => e = .returned (.tuple #[]) ∧ (∃ rt', SetAt (Plus ok W.heap.size) w' bs A c o rt' (.mk [] [])) ∧ Kept1 bs W w' := by
  have h0 := h.c0
  have H := Aside0.mk h
  have hlt := h.lt
  have a1 := below_alloc (Below.refl W.heap.size W) (.cells #[.slice none 0 0, .slice none 0 0] 87)
  have hp := blk a1 h.hp
  have c2 := (cell_of_heap hp 2).trans rfl
  have c3 := (cell_of_heap hp 3).trans rfl
  have f2 := free_of_heap hp 2
  have f3 := free_of_heap hp 3
  have HP := Aside0.mk hp
  have HA1 := Aside0.mk a1
  have HLT := Aside0.mk hlt
  clear h hp a1 hlt
  go_enter Try.func36, Try.ntmps36
  go_wp2_with (go_at_call 48; refine (ok_calls _ bs h0).mono ?_; rintro e w' ⟨rfl, rfl⟩)
  go_end0
  obtain ⟨X, hX⟩ : ∃ X, X = W.alloc (.cells #[.slice none 0 0, .slice none 0 0] 87) := ⟨_, rfl⟩
  have hn : X.heap[W.heap.size]? = some (.cells #[.slice none 0 0, .slice none 0 0] 87 (0, 0)) := by rw [hX]; exact heap_alloc_new W _
  have hb := HA1.out
  have hp := HP.out
  rw [← hX] at hb hp ⊢
  have hp2 := heap_setCell_same _ bs 3 _ _ (.int .i64 0) (heap_setCell_same X bs 2 _ _ (.pointer (some ⟨W.heap.size, 0, none⟩)) hp)
  have hst : ∀ k, k ≠ bs → ((X.setCell ⟨bs, 2, none⟩ (.pointer (some ⟨W.heap.size, 0, none⟩))).setCell ⟨bs, 3, none⟩ (.int .i64 0)).heap[k]? = X.heap[k]? := fun k hk => by
    rw [Below.heap_setCell _ _ _ _ hk, Below.heap_setCell _ _ _ _ hk]
  have hlt := HLT.out
  have hN := (hst W.heap.size (by omega)).trans hn
  have hE : ((X.setCell ⟨bs, 2, none⟩ (.pointer (some ⟨W.heap.size, 0, none⟩))).setCell ⟨bs, 3, none⟩ (.int .i64 0)).heap.size = X.heap.size := by simp
  refine ⟨rfl, ⟨W.heap.size, ⟨by rw [BT.io_mk]; simpa [weave] using hp2, H.out.so, ?_, ?_, (BT.ok_mk _ _).2 ⟨.inl rfl, by simp⟩, H.out.rto, fun a ha => by rw [BT.io_mk] at ha; simp [weave] at ha, by rw [BT.io_mk]; exact List.Pairwise.nil, by rw [BT.io_mk]; simp [weave], plus_not H.out.nok hlt⟩⟩, ((Kept1.below hb).trans (Kept1.set bs X 2 _)).trans (Kept1.set bs _ 3 _)⟩
  · refine Kd.F_mono (Kd.F_step H.out.F fun k hk hl => ?_) (plus_l ok _)
    rw [hst k (fun e => H.out.nok (e ▸ hk))]
    exact hb.block k hl
  · exact .mk _ none 0 none 0 [] [] [] (.inr (Nat.le_refl _)) ((cell_of_heap hN 0).trans rfl) ((cell_of_heap hN 1).trans rfl) (Nat.le_refl _) (Nat.le_refl _) rfl (Kd.F_nil KT _ _) (Kd.F_nil KN _ _) (fun i h => by simp at h)

theorem put4 (w : World) (b : Nat) {y0 y1 y2 y3 : Value} {t : TypeId} (h : w.heap[b]? = some (.cells #[y0, y1, y2, y3] t (0, 0))) (x0 x1 x2 x3 : Value) :
    ((((w.setCell ⟨b, 0, none⟩ x0).setCell ⟨b, 1, none⟩ x1).setCell ⟨b, 2, none⟩ x2).setCell ⟨b, 3, none⟩ x3).heap[b]? = some (.cells #[x0, x1, x2, x3] t (0, 0)) ∧ Kept1 b w ((((w.setCell ⟨b, 0, none⟩ x0).setCell ⟨b, 1, none⟩ x1).setCell ⟨b, 2, none⟩ x2).setCell ⟨b, 3, none⟩ x3) := by
  have h0 := heap_setCell_same w b 0 _ _ x0 h
  have h1 := heap_setCell_same _ b 1 _ _ x1 h0
  have h2 := heap_setCell_same _ b 2 _ _ x2 h1
  have h3 := heap_setCell_same _ b 3 _ _ x3 h2
  exact ⟨by simpa using h3, (((Kept1.set b w 0 x0).trans (Kept1.set b _ 1 x1)).trans (Kept1.set b _ 2 x2)).trans (Kept1.set b _ 3 x3)⟩
/-- Two blocks may have turned. -/
structure KeptTwo (b1 b2 : Nat) (W w' : World) : Prop where
  os : w'.os = W.os
  tape : w'.tape = W.tape
  output : w'.output = W.output
  size : W.heap.size ≤ w'.heap.size
  heap : ∀ k, k < W.heap.size → k ≠ b1 → k ≠ b2 → w'.heap[k]? = W.heap[k]?

set_option maxHeartbeats 2000000 in
set_option maxRecDepth 100000 in
theorem swap_width {ok ok' : Nat → Prop} (W : World) (b1 b2 : Nat) {A1 A2 : Option Addr} {c1 c2 : Nat} {o1 o2 : Tp} {r1 r2 : Nat} {T1 T2 : BT} (h1 : SetAt ok W b1 A1 c1 o1 r1 T1) (h2 : SetAt ok' W b2 A2 c2 o2 r2 T2) (hw : o1.length ≠ o2.length) :
    Calls Try.prog 37 #[.pointer (some ⟨b1, 0, none⟩), .pointer (some ⟨b2, 0, none⟩)] W fun e w' => e = .returned (.int .i64 14) ∧ Drawn0 W w' := by
  have k1 := ok_calls W b1 h1.c0
  have k2 := ok_calls W b2 h2.c0
  have d1 := h1.c1
  have d2 := h2.c1
  have hne : ((o1.length : Int) != (o2.length : Int)) = true := bne_iff_ne.2 (by omega)
  clear h1 h2 hw
  go_enter Try.func37, Try.ntmps37
  go_wp2_with (first
    | (go_at_call 48; refine k1.mono ?_; clear k1; rintro e w' ⟨rfl, rfl⟩)
    | (go_at_call 48; refine k2.mono ?_; clear k2; rintro e w' ⟨rfl, rfl⟩))
  go_region
  all_goals go_wp2
  go_ret
  exact ⟨rfl, ⟨1, rfl⟩⟩

set_option maxHeartbeats 2000000 in
set_option maxRecDepth 100000 in
theorem swap_same {ok ok' : Nat → Prop} (W : World) (b1 b2 : Nat) {A1 A2 : Option Addr} {c1 c2 : Nat} {o1 o2 : Tp} {r1 r2 : Nat} {T1 T2 : BT} (h1 : SetAt ok W b1 A1 c1 o1 r1 T1) (h2 : SetAt ok' W b2 A2 c2 o2 r2 T2) (hne : b1 ≠ b2) (hw : o1.length = o2.length) :
    Calls Try.prog 37 #[.pointer (some ⟨b1, 0, none⟩), .pointer (some ⟨b2, 0, none⟩)] W fun e w' => e = .returned (.int .i64 0) ∧ KeptTwo b1 b2 W w' ∧ w'.heap[b1]? = W.heap[b2]? ∧ w'.heap[b2]? = W.heap[b1]? := by
  have k1 := ok_calls W b1 h1.c0
  have k2 := ok_calls W b2 h2.c0
  have a0 := h1.c0
  have a1 := h1.c1
  have a2 := h1.c2
  have a3 := h1.c3
  have d0 := h2.c0
  have d1 := h2.c1
  have d2 := h2.c2
  have d3 := h2.c3
  have he : ((o1.length : Int) != (o2.length : Int)) = false := by rw [hw]; simp
  have f0 := free_of_heap h1.hp 0
  have f1 := free_of_heap h1.hp 1
  have f2 := free_of_heap h1.hp 2
  have f3 := free_of_heap h1.hp 3
  have g0 := free_of_heap h2.hp 0
  have g1 := free_of_heap h2.hp 1
  have g2 := free_of_heap h2.hp 2
  have g3 := free_of_heap h2.hp 3
  have hne' : b2 ≠ b1 := fun e => hne e.symm
  have P1 := Aside0.mk h1.hp
  have P2 := Aside0.mk h2.hp
  clear h1 h2 hw
  go_enter Try.func37, Try.ntmps37
  go_wp2_with (first
    | (go_at_call 48; refine k1.mono ?_; clear k1; rintro e w' ⟨rfl, rfl⟩)
    | (go_at_call 48; refine k2.mono ?_; clear k2; rintro e w' ⟨rfl, rfl⟩))
  go_region
  all_goals go_wp2
  all_goals go_region
  all_goals go_wp2
  all_goals go_ret
  obtain ⟨m1, m2⟩ := put4 W b1 P1.out (.bool true) (.slice A2 o2.length c2) (.pointer (some ⟨r2, 0, none⟩)) (.int .i64 (T2.io.length : Int))
  obtain ⟨X, hX⟩ : ∃ X, X = (((W.setCell ⟨b1, 0, none⟩ (.bool true)).setCell ⟨b1, 1, none⟩ (.slice A2 o2.length c2)).setCell ⟨b1, 2, none⟩ (.pointer (some ⟨r2, 0, none⟩))).setCell ⟨b1, 3, none⟩ (.int .i64 (T2.io.length : Int)) := ⟨_, rfl⟩
  rw [← hX] at m1 m2 ⊢
  obtain ⟨n1, n2⟩ := put4 X b2 ((m2.heap (Array.getElem?_eq_some_iff.1 P2.out).1 hne').trans P2.out) (.bool true) (.slice A1 o1.length c1) (.pointer (some ⟨r1, 0, none⟩)) (.int .i64 (T1.io.length : Int))
  have hsz := m2.g.size
  refine ⟨rfl, ⟨?_, ?_, ?_, Nat.le_trans m2.g.size n2.g.size, fun k hk h1 h2 => (n2.heap (by omega) h2).trans (m2.heap hk h1)⟩, ?_, ?_⟩
  · exact (n2.g.os).trans m2.g.os
  · exact (n2.g.tape).trans m2.g.tape
  · exact (n2.g.output).trans m2.g.output
  · exact ((n2.heap (Array.getElem?_eq_some_iff.1 m1).1 hne).trans m1).trans P2.out.symm
  · exact n1.trans P1.out.symm

end Go.Proofs.Ytcmllllbmgcnlaa.Tup

namespace Go.Proofs.Ytcmllllbmgcnlaa.Tup
open Go.RowKit Go.Lib Go.Shelf Go.Proofs.Ytcmllllbmgcnlaa.F Go.Proofs.YtcmllllbmgcnlaaW.PrintWords Go.Proofs.YtcmllllbmgcnlaaW.PrintLast Go.Proofs.YtcmllllbmgcnlaaW.PrintMore
set_option linter.unusedVariables false
set_option linter.unusedSimpArgs false
attribute [local go_sem] Oper.semAt_some

/-- Where a merge stands: the set may have turned, the count and the results. -/
structure MergI (wL : World) (ok : Nat → Prop) (b1 bN bR bE : Nat) (A : Option Addr) (c : Nat) (o : Tp) (n v u : Int) (L : List Tp) (W : World) : Prop where
  sz : wL.heap.size ≤ W.heap.size
  os : W.os = wL.os
  tape : W.tape = wL.tape
  output : W.output = wL.output
  kp : ∀ k, k < wL.heap.size → k ≠ b1 → k ≠ bN → k ≠ bR → k ≠ bE → W.heap[k]? = wL.heap[k]?
  kN : W.heap[bN]? = some (.cells #[.int .i64 n] 3 (0, 0))
  kR : W.heap[bR]? = some (.cells #[.int .i64 v] 3 (0, 0))
  kE : W.heap[bE]? = some (.cells #[.int .i64 u] 25 (0, 0))
  st : ∃ r T, SetAt (fun k => ok k ∧ k ≠ bN ∧ k ≠ bR ∧ k ≠ bE) W b1 A c o r T ∧ T.io = L

/-- What stands fast of the four blocks. -/
structure MergN (wL : World) (ok : Nat → Prop) (b1 bN bR bE : Nat) : Prop where
  l1 : b1 < wL.heap.size
  lN : bN < wL.heap.size
  lR : bR < wL.heap.size
  lE : bE < wL.heap.size
  n1 : b1 ≠ bN
  n2 : b1 ≠ bR
  n3 : b1 ≠ bE
  n4 : bN ≠ bR
  n5 : bN ≠ bE
  n6 : bR ≠ bE
  new : ∀ k, wL.heap.size ≤ k → ok k

section
variable {wL W W1 : World} {ok : Nat → Prop} {b1 bN bR bE : Nat} {A : Option Addr} {c : Nat} {o : Tp} {n v u : Int} {L : List Tp}
theorem one_set {w : World} {b : Nat} {x y : Value} {t : TypeId} (h : w.heap[b]? = some (.cells #[x] t (0, 0))) : (w.setCell ⟨b, 0, none⟩ y).heap[b]? = some (.cells #[y] t (0, 0)) := by
  have := heap_setCell_same w b 0 _ _ y h
  simpa using this
theorem one_cell {w : World} {b : Nat} {x : Value} {t : TypeId} (h : w.heap[b]? = some (.cells #[x] t (0, 0))) : w.cell? ⟨b, 0, none⟩ = some x := (cell_of_heap h 0).trans rfl
theorem one_free {w : World} {b : Nat} {x : Value} {t : TypeId} (h : w.heap[b]? = some (.cells #[x] t (0, 0))) : w.frozen? ⟨b, 0, none⟩ = false := free_of_heap h 0

theorem MergI.grown (h : MergI wL ok b1 bN bR bE A c o n v u L W) (m : MergN wL ok b1 bN bR bE) {row : Option Nat} (hg : W.grownBy W1 row) (hr : ∀ r, row = some r → wL.heap.size ≤ r ∧ ∃ o : Obj, W.heap[r]? = some o ∧ o.isCells = false) : MergI wL ok b1 bN bR bE A c o n v u L W1 := by
  obtain ⟨r, T, hs, e⟩ := h.st
  have hlt : ∀ k, k < wL.heap.size → W1.heap[k]? = W.heap[k]? := fun k hk => hg.block k (Nat.lt_of_lt_of_le hk h.sz) fun e => by have := (hr k e.symm).1; omega
  exact ⟨Nat.le_trans h.sz hg.size, hg.os.trans h.os, hg.tape.trans h.tape, hg.output.trans h.output, fun k h1 h2 h3 h4 h5 => (hlt k h1).trans (h.kp k h1 h2 h3 h4 h5), (hlt bN m.lN).trans h.kN, (hlt bR m.lR).trans h.kR, (hlt bE m.lE).trans h.kE, r, T, hs.others hg fun r e => (hr r e).2, e⟩
theorem MergI.since (h : MergI wL ok b1 bN bR bE A c o n v u L W) (hs : Since W W1) : MergI wL ok b1 bN bR bE A c o n v u L W1 := by
  obtain ⟨r, T, ht, e⟩ := h.st
  exact ⟨Nat.le_trans h.sz hs.b.size, hs.b.os.trans h.os, hs.b.tape.trans h.tape, hs.b.output.trans h.output, fun k h1 h2 h3 h4 h5 => (hs.b.block k (Nat.lt_of_lt_of_le h1 h.sz)).trans (h.kp k h1 h2 h3 h4 h5), blk hs.b h.kN, blk hs.b h.kR, blk hs.b h.kE, r, T, ht.since hs, e⟩
theorem MergI.ins (h : MergI wL ok b1 bN bR bE A c o n v u L W) (m : MergN wL ok b1 bN bR bE) (hk : Kept1 b1 W W1) {r : Nat} {T : BT} {M : List Tp} (ht : SetAt (Plus (fun k => ok k ∧ k ≠ bN ∧ k ≠ bR ∧ k ≠ bE) W.heap.size) W1 b1 A c o r T) (e : T.io = M) : MergI wL ok b1 bN bR bE A c o n v u M W1 := by
  have hz := h.sz
  have := m.lN
  have := m.lR
  have := m.lE
  have := m.l1
  obtain ⟨_, _, h0, _⟩ := h.st
  exact ⟨Nat.le_trans h.sz hk.g.size, hk.g.os.trans h.os, hk.g.tape.trans h.tape, hk.g.output.trans h.output, fun k h1 h2 h3 h4 h5 => (hk.heap (by omega) h2).trans (h.kp k h1 h2 h3 h4 h5), (hk.heap (by omega) m.n1.symm).trans h.kN, (hk.heap (by omega) m.n2.symm).trans h.kR, (hk.heap (by omega) m.n3.symm).trans h.kE, r, T, ht.mono (fun k hk => hk.elim id fun h => ⟨m.new k (by omega), by omega, by omega, by omega⟩) h0.nok, e⟩
theorem MergI.set (h : MergI wL ok b1 bN bR bE A c o n v u L W) (m : MergN wL ok b1 bN bR bE) :
    (∀ x : Int, MergI wL ok b1 bN bR bE A c o x v u L (W.setCell ⟨bN, 0, none⟩ (.int .i64 x))) ∧ (∀ x : Int, MergI wL ok b1 bN bR bE A c o n x u L (W.setCell ⟨bR, 0, none⟩ (.int .i64 x))) ∧ (∀ x : Int, MergI wL ok b1 bN bR bE A c o n v x L (W.setCell ⟨bE, 0, none⟩ (.int .i64 x))) := by
  obtain ⟨r, T, ht, e⟩ := h.st
  have ho : ∀ (b : Nat) (y : Value) k, k ≠ b → (W.setCell ⟨b, 0, none⟩ y).heap[k]? = W.heap[k]? := fun b y k hk => Below.heap_setCell _ _ _ _ hk
  refine ⟨fun x => ⟨by simpa using h.sz, h.os, h.tape, h.output, fun k h1 h2 h3 h4 h5 => (ho _ _ k h3).trans (h.kp k h1 h2 h3 h4 h5), one_set h.kN, (ho _ _ _ m.n4.symm).trans h.kR, (ho _ _ _ m.n5.symm).trans h.kE, r, T, ht.step (fun k hk _ => ho _ _ k hk.2.1) (ho _ _ b1 m.n1), e⟩,
    fun x => ⟨by simpa using h.sz, h.os, h.tape, h.output, fun k h1 h2 h3 h4 h5 => (ho _ _ k h4).trans (h.kp k h1 h2 h3 h4 h5), (ho _ _ _ m.n4).trans h.kN, one_set h.kR, (ho _ _ _ m.n6.symm).trans h.kE, r, T, ht.step (fun k hk _ => ho _ _ k hk.2.2.1) (ho _ _ b1 m.n2), e⟩,
    fun x => ⟨by simpa using h.sz, h.os, h.tape, h.output, fun k h1 h2 h3 h4 h5 => (ho _ _ k h5).trans (h.kp k h1 h2 h3 h4 h5), (ho _ _ _ m.n5).trans h.kN, (ho _ _ _ m.n6).trans h.kR, one_set h.kE, r, T, ht.step (fun k hk _ => ho _ _ k hk.2.2.2) (ho _ _ b1 m.n3), e⟩⟩
theorem merg_fp {N : Nat} {k0 : Nat} {ok' : Nat → Prop} (m : MergN wL ok b1 bN bR bE) (h : ¬ ok' b1 ∧ k0 ≤ bN ∧ k0 ≤ bR ∧ k0 ≤ bE) : ¬ Priv (fun k => ok' k ∧ k < k0) (wL.heap.size + 2) N b1 ∧ ¬ Priv (fun k => ok' k ∧ k < k0) (wL.heap.size + 2) N bN ∧ ¬ Priv (fun k => ok' k ∧ k < k0) (wL.heap.size + 2) N bR ∧ ¬ Priv (fun k => ok' k ∧ k < k0) (wL.heap.size + 2) N bE := by
  have h1 := m.l1
  have h2 := m.lN
  have h3 := m.lR
  have h4 := m.lE
  refine ⟨fun hk => ?_, fun hk => ?_, fun hk => ?_, fun hk => ?_⟩
  · rcases hk with hk | hk
    · exact h.1 hk.1
    · omega
  all_goals
    rcases hk with hk | hk
    · have := hk.2; omega
    · omega
/-- From one stand to a later one. -/
structure MergK (b1 bN bR bE : Nat) (W W' : World) : Prop where
  size : W.heap.size ≤ W'.heap.size
  same : ∀ k, k < W.heap.size → k ≠ b1 → k ≠ bN → k ≠ bR → k ≠ bE → W'.heap[k]? = W.heap[k]?
theorem MergK.ins (h : Kept1 b1 W W1) : MergK b1 bN bR bE W W1 := ⟨h.g.size, fun k hk h1 _ _ _ => h.heap hk h1⟩
theorem MergK.set (h : MergK b1 bN bR bE W W1) {b : Nat} (hb : b = bN ∨ b = bR ∨ b = bE) (y : Value) : MergK b1 bN bR bE W (W1.setCell ⟨b, 0, none⟩ y) :=
  ⟨by simpa using h.size, fun k hk h1 h2 h3 h4 => (Below.heap_setCell _ _ _ _ (by show k ≠ b; rcases hb with rfl | rfl | rfl <;> assumption)).trans (h.same k hk h1 h2 h3 h4)⟩
theorem MergK.keeps (h : MergK b1 bN bR bE W W1) (m : MergN wL ok b1 bN bR bE) : KeepsFrom wL.heap.size W W1 :=
  ⟨h.size, fun k o hk ho _ => (h.same k (Array.getElem?_eq_some_iff.1 ho).1 (by have := m.l1; omega) (by have := m.lN; omega) (by have := m.lR; omega) (by have := m.lE; omega)).trans ho⟩
theorem MergK.kpf (h : MergK b1 bN bR bE W W1) {fp : Nat → Prop} (h1 : ¬ fp b1) (h2 : ¬ fp bN) (h3 : ¬ fp bR) (h4 : ¬ fp bE) : KpF fp W W1 :=
  ⟨h.size, fun k hk hlt => h.same k hlt (fun e => h1 (e ▸ hk)) (fun e => h2 (e ▸ hk)) (fun e => h3 (e ▸ hk)) (fun e => h4 (e ▸ hk))⟩
end

set_option maxHeartbeats 2000000 in
set_option maxRecDepth 100000 in
theorem merge_width {ok ok' : Nat → Prop} (W : World) (b1 b2 : Nat) {A1 A2 : Option Addr} {c1 c2 : Nat} {o1 o2 : Tp} {r1 r2 : Nat} {T1 T2 : BT} (h1 : SetAt ok W b1 A1 c1 o1 r1 T1) (h2 : SetAt ok' W b2 A2 c2 o2 r2 T2) (hw : o1.length ≠ o2.length) :
    Calls Try.prog 35 #[.pointer (some ⟨b1, 0, none⟩), .pointer (some ⟨b2, 0, none⟩)] W fun e w' => e = .returned (.tuple #[.int .i64 0, .int .i64 14]) ∧ Below W.heap.size W w' := by
  have hs := ((((Since.refl W).alloc (.cells #[.pointer (some ⟨b1, 0, none⟩)] 24)).alloc (.cells #[.int .i64 0] 3)).alloc (.cells #[.int .i64 0] 25))
  have k1 := ok_calls _ b1 (h1.since hs).c0
  have k2 := ok_calls _ b2 (h2.since hs).c0
  have d1 := (h1.since hs).c1
  have d2 := (h2.since hs).c1
  have hne : ((o1.length : Int) != (o2.length : Int)) = true := bne_iff_ne.2 (by omega)
  clear h1 h2 hw hs
  go_enter Try.func35, Try.ntmps35
  go_wp2_with (first
    | (go_at_call 48; refine k1.mono ?_; clear k1; rintro e w' ⟨rfl, rfl⟩)
    | (go_at_call 48; refine k2.mono ?_; clear k2; rintro e w' ⟨rfl, rfl⟩))
  go_region
  all_goals go_wp2
  all_goals (refine bodyPost_ret (v := .tuple #[.int .i64 0, .int .i64 14]) (by simp [results, Try.results35, go_sem]) rfl ⟨rfl, ?_⟩)
  all_goals exact ((((Since.refl W).alloc _).alloc _).alloc _).b.drew

/-- What is told at the end. -/
theorem merge_close {ok : Nat → Prop} {W wL W8 : World} {b1 b2 bN bR bE : Nat} {A1 A2 : Option Addr} {c1 c2 : Nat} {o1 o2 : Tp} {r2 : Nat} {T2 : BT} {x n e : Int} {L : List Tp} (SW : Since W wL) (h : MergI wL ok b1 bN bR bE A1 c1 o1 x n e L W8) (h2 : SetAt (fun k => ok k ∧ k < W.heap.size) wL b2 A2 c2 o2 r2 T2) (hf : ¬ ok b1 ∧ W.heap.size ≤ bN ∧ W.heap.size ≤ bR ∧ W.heap.size ≤ bE) (hne : b1 ≠ b2) (hb2 : b2 < W.heap.size) (hn2 : ¬ ok b2) :
    (∃ r T, SetAt ok W8 b1 A1 c1 o1 r T ∧ T.io = L) ∧ SetAt ok W8 b2 A2 c2 o2 r2 T2 ∧ Kept1 b1 W W8 := by
  obtain ⟨r, T, hs, e1⟩ := h.st
  have hz := SW.b.size
  refine ⟨⟨r, T, hs.mono (fun k hk => hk.1) hf.1, e1⟩, (h2.step (fun k hk hlt => h.kp k hlt (fun e => hf.1 (e ▸ hk.1)) (by have := hk.2; omega) (by have := hk.2; omega) (by have := hk.2; omega)) (h.kp b2 (by omega) hne.symm (by omega) (by omega) (by omega))).mono (fun k hk => hk.1) hn2, ⟨h.os.trans SW.b.os, h.tape.trans SW.b.tape, h.output.trans SW.b.output, Nat.le_trans hz h.sz, fun k hk hn => (h.kp k (by omega) (fun e => hn (by rw [e])) (by omega) (by omega) (by omega)).trans (SW.b.block k hk)⟩⟩

set_option maxHeartbeats 8000000 in
set_option maxRecDepth 100000 in
theorem merge_main {ok : Nat → Prop} (W : World) (b1 b2 : Nat) {A1 A2 : Option Addr} {c1 c2 : Nat} {o1 o2 : Tp} {r1 r2 : Nat} {T1 T2 : BT} (h1 : SetAt ok W b1 A1 c1 o1 r1 T1) (h2 : SetAt ok W b2 A2 c2 o2 r2 T2) (hne : b1 ≠ b2) (hl : o1.length = o2.length) (hok : ∀ k, W.heap.size ≤ k → ok k) :
    Calls Try.prog 35 #[.pointer (some ⟨b1, 0, none⟩), .pointer (some ⟨b2, 0, none⟩)] W fun e w' => e = .returned (.tuple #[.int .i64 ((mergeS o1 T1.io 0 T2.io).1 : Int), .int .i64 ((mergeS o1 T1.io 0 T2.io).2.1 : Int)]) ∧ (∃ r T, SetAt ok w' b1 A1 c1 o1 r T ∧ T.io = (mergeS o1 T1.io 0 T2.io).2.2) ∧ SetAt ok w' b2 A2 c2 o2 r2 T2 ∧ Kept1 b1 W w' := by
  have hs := ((((Since.refl W).alloc (.cells #[.pointer (some ⟨b1, 0, none⟩)] 24)).alloc (.cells #[.int .i64 0] 3)).alloc (.cells #[.int .i64 0] 25))
  have k1 := ok_calls _ b1 (h1.since hs).c0
  have k2 := ok_calls _ b2 (h2.since hs).c0
  have d1 := (h1.since hs).c1
  have d2 := (h2.since hs).c1
  have hle : ((o1.length : Int) != (o2.length : Int)) = false := by rw [hl]; simp
  have H1 := Aside0.mk h1
  have H2 := Aside0.mk h2
  have HX := Aside0.mk (And.intro hne (And.intro hl hok))
  clear h1 h2 hs hl hne hok
  refine callsIn_wide (n := 3) |>.1 ?_
  refine callsIn_of_wp_marks Try.func35 rfl trivial ?_ rfl
  simp only [Try.ntmps35, List.size_toArray, List.length_cons, List.length_nil, Nat.reduceAdd, Nat.reduceSub, Array.replicate_succ, Array.replicate_zero, List.push_toArray, List.append_toArray, List.nil_append, List.cons_append]
  gi_wp2_with (first
    | ((try refine ⟨trivial, ?_⟩); gi_at_call 48; refine (callsIn_wide.2 k1).mono ?_; clear k1; rintro e w' ⟨rfl, rfl⟩)
    | ((try refine ⟨trivial, ?_⟩); gi_at_call 48; refine (callsIn_wide.2 k2).mono ?_; clear k2; rintro e w' ⟨rfl, rfl⟩))
  gi_region
  obtain ⟨wA, hwA⟩ : ∃ wA, wA = (((W.alloc (.cells #[.pointer (some ⟨b1, 0, none⟩)] 24)).alloc (.cells #[.int .i64 0] 3)).alloc (.cells #[.int .i64 0] 25)).drew := ⟨_, rfl⟩
  have SA := Aside0.mk (show Since W wA by rw [hwA]; exact ((((Since.refl W).alloc _).alloc _).alloc _).drew)
  have hsA : wA.heap.size = W.heap.size + 3 := by rw [hwA]; simp
  have hS := Aside0.mk (show wA.heap[W.heap.size]? = some (.cells #[.pointer (some ⟨b1, 0, none⟩)] 24 (0, 0)) by
    rw [hwA]
    exact (Below.heap_alloc _ _ _ (by simp; omega)).trans ((Below.heap_alloc _ _ _ (by simp)).trans (heap_alloc_new W _)))
  have hR := Aside0.mk (show wA.heap[W.heap.size + 1]? = some (.cells #[.int .i64 0] 3 (0, 0)) by
    rw [hwA]
    have h := heap_alloc_new (W.alloc (.cells #[.pointer (some ⟨b1, 0, none⟩)] 24)) (.cells #[.int .i64 0] 3)
    rw [World.size_alloc] at h
    exact (Below.heap_alloc _ _ _ (by simp)).trans h)
  have hE := Aside0.mk (show wA.heap[W.heap.size + 1 + 1]? = some (.cells #[.int .i64 0] 25 (0, 0)) by
    rw [hwA]
    have h := heap_alloc_new ((W.alloc (.cells #[.pointer (some ⟨b1, 0, none⟩)] 24)).alloc (.cells #[.int .i64 0] 3)) (.cells #[.int .i64 0] 25)
    rw [World.size_alloc, World.size_alloc] at h
    exact h)
  obtain ⟨bS, hbS⟩ : ∃ b, b = W.heap.size := ⟨_, rfl⟩
  obtain ⟨bR, hbR⟩ : ∃ b, b = W.heap.size + 1 := ⟨_, rfl⟩
  obtain ⟨bE, hbE⟩ : ∃ b, b = W.heap.size + 1 + 1 := ⟨_, rfl⟩
  have HSZ : Aside0 (bS = W.heap.size ∧ bR = W.heap.size + 1 ∧ bE = W.heap.size + 2 ∧ wA.heap.size = W.heap.size + 3) := ⟨by omega⟩
  rw [← hwA]
  rw [← hbS] at hS
  rw [← hbR] at hR
  rw [← hbE] at hE
  rw [← hbE, ← hbR, ← hbS]
  clear hwA hsA hbS hbR hbE d1 d2 hle
  have hA1 := all_calls (wA.alloc (.cells #[.int .i64 0] 3)) (.pointer (some ⟨b2, 0, none⟩)) ⟨_, rfl⟩
  gi_wp2_with (first
    | ((try refine ⟨trivial, ?_⟩); gi_at_call 22; refine (callsIn_wide.2 hA1).mono ?_; clear hA1; rintro e w7 ⟨rfl, rfl⟩))
  obtain ⟨wL, hwL⟩ : ∃ wL, wL = (wA.alloc (.cells #[.int .i64 0] 3)).alloc (.cells #[.pointer (some ⟨b2, 0, none⟩)] 24) := ⟨_, rfl⟩
  have SL := Aside0.mk (show Since wA wL by rw [hwL]; exact ((Since.refl wA).alloc _).alloc _)
  have hsL : wL.heap.size = wA.heap.size + 2 := by rw [hwL]; simp
  have hN := Aside0.mk (show wL.heap[wA.heap.size]? = some (.cells #[.int .i64 0] 3 (0, 0)) by
    rw [hwL]
    exact (Below.heap_alloc _ _ _ (by simp)).trans (heap_alloc_new wA _))
  have hA := Aside0.mk (show wL.heap[wA.heap.size + 1]? = some (.cells #[.pointer (some ⟨b2, 0, none⟩)] 24 (0, 0)) by
    rw [hwL]
    have h := heap_alloc_new (wA.alloc (.cells #[.int .i64 0] 3)) (.cells #[.pointer (some ⟨b2, 0, none⟩)] 24)
    rw [World.size_alloc] at h
    exact h)
  obtain ⟨bN, hbN⟩ : ∃ b, b = wA.heap.size := ⟨_, rfl⟩
  obtain ⟨bA, hbA⟩ : ∃ b, b = wA.heap.size + 1 := ⟨_, rfl⟩
  rw [← hwL]
  rw [← hbN] at hN
  rw [← hbA] at hA
  rw [← hbA, ← hbN]
  have l1 := H1.out.lt
  have l2 := H2.out.lt
  have HM := Aside0.mk (show MergN wL ok b1 bN bR bE by
    have := HSZ.out
    exact ⟨by omega, by omega, by omega, by omega, by omega, by omega, by omega, by omega, by omega, by omega, fun k hk => HX.out.2.2 k (by omega)⟩)
  have HZ : Aside0 (bN = W.heap.size + 3 ∧ bA = W.heap.size + 4 ∧ wL.heap.size = W.heap.size + 5 ∧ b1 < W.heap.size ∧ b2 < W.heap.size) := ⟨by have := HSZ.out; omega⟩
  have SW := Aside0.mk (SA.out.trans SL.out)
  have HI0 := Aside0.mk (show MergI wL ok b1 bN bR bE A1 c1 o1 0 0 0 T1.io wL from ⟨Nat.le_refl _, rfl, rfl, rfl, fun _ _ _ _ _ _ => rfl, hN.out, blk SL.out.b hR.out, blk SL.out.b hE.out, r1, T1, (H1.out.bound.since SW.out).mono (fun k hk => ⟨hk.1, by have := hk.2; have := HZ.out; have := HSZ.out; omega⟩) (fun hk => H1.out.nok hk.1), rfl⟩)
  have HS2 := Aside0.mk (H2.out.bound.since SW.out)
  have hSL := Aside0.mk (blk SL.out.b hS.out)
  have HFP : Aside0 (¬ ok b1 ∧ W.heap.size ≤ bN ∧ W.heap.size ≤ bR ∧ W.heap.size ≤ bE) := ⟨H1.out.nok, by have := HZ.out; have := HSZ.out; omega⟩
  clear hwL hsL hbN hbA l1 l2 hS hR hE hN
  refine range_outer1 rfl rfl (gf := 52) (lb := #[.pointer (some ⟨bA, 0, none⟩)]) rfl trivial listA_enters (fp := fun k => ok k ∧ k < W.heap.size) (fun k hk => by have := hk.2; have := HZ.out; omega) (xs := T2.io) (all_seq wL bA b2 HS2.out (fun k hk => hk) (one_cell hA.out)) rfl (fun t v => (t.setIfInBounds 33 v).setIfInBounds 7 v) (fun N pre W' => N ≤ W'.heap.size ∧ ∃ (n : Nat) (L : List Tp) (rest : List Tp), pre ++ rest = T2.io ∧ mergeS o1 T1.io 0 T2.io = mergeS o1 L n rest ∧ n ≤ pre.length ∧ MergI wL ok b1 bN bR bE A1 c1 o1 n 0 0 L W') (fun N c pre W' => c = .ret ∧ ∃ (n e : Nat) (L : List Tp), mergeS o1 T1.io 0 T2.io = (n, e, L) ∧ ∃ x, MergI wL ok b1 bN bR bE A1 c1 o1 x n e L W') (fun N _ => ?own) (fun N c _ => ?ownx) (fun W' hW' _ => ⟨Nat.le_refl _, 0, T1.io, T2.io, rfl, rfl, Nat.le_refl _, HI0.out.since ⟨hW'⟩⟩) ?assign ?body ?done ?stop
  case own =>
    rintro s X Y row ⟨h1, n, L, rest, e1, e2, e3, h2⟩ hg hr
    exact ⟨Nat.le_trans h1 hg.size, n, L, rest, e1, e2, e3, h2.grown HM.out hg hr⟩
  case ownx =>
    rintro s X Y row ⟨h1, n, e, L, e1, x, h2⟩ hg hr
    exact ⟨h1, n, e, L, e1, x, h2.grown HM.out hg hr⟩
  case assign =>
    intro l v W' K hK
    gi_wp2
    exact hK
  case body =>
    rintro N l pre x A c W0 W1 hNw hl ⟨rl, hrl⟩ ⟨hN0, _⟩ hpre ⟨hh1, hh2⟩ ⟨hN1, n, L, rest, e1, e2, e3, hI⟩
    obtain ⟨rest', hrest⟩ : ∃ rest', rest = x :: rest' := by
      obtain ⟨z, hz⟩ := hpre
      rw [← e1, List.append_assoc] at hz
      exact ⟨z, (List.append_cancel_left hz).symm⟩
    subst hrest
    have hxm : x ∈ T2.io := by rw [← e1]; simp
    obtain ⟨r, T, hS, hTL⟩ := hI.st
    have hIn := insert_calls W1 b1 hS A c x (Handed1.sl ⟨hh1, hh2⟩) (by have := H1.out.rto.1; omega)
    have kS := one_cell ((hI.kp bS (by have := HZ.out; have := HSZ.out; omega) (by have := HZ.out; have := HSZ.out; omega) (by have := HZ.out; have := HSZ.out; omega) (by have := HSZ.out; omega) (by have := HSZ.out; omega)).trans hSL.out)
    obtain ⟨qb, hqb⟩ : ∃ q, q = (insAns o1 L x).1 := ⟨_, rfl⟩
    obtain ⟨qe, hqe⟩ : ∃ q, q = (insAns o1 L x).2 := ⟨_, rfl⟩
    have HQ := Aside0.mk (And.intro hqb hqe)
    have HI := Aside0.mk hI
    have HTL := Aside0.mk hTL
    have HE := Aside0.mk (And.intro e1 (And.intro e2 e3))
    have HNN := Aside0.mk hN1
    have hnl : n ≤ 1024 := by
      have h1 := hpre.length_le
      have := H2.out.le
      simp at h1
      omega
    have HInr := Aside0.mk (hIn.mono (fun e w' (h : InsR _ W1 b1 A1 c1 o1 T x e w') => show e = .returned (.tuple #[.bool qb, .int .i64 (qe : Int)]) ∧ Kept1 b1 W1 w' ∧ MergI wL ok b1 bN bR bE A1 c1 o1 n 0 0 (insTo o1 L x) w' from by
      obtain ⟨rs3, T3, e, hS4, hio3, hk4⟩ := h
      rw [hTL, ← hqb, ← hqe] at e
      rw [hTL] at hio3
      exact ⟨e, hk4, hI.ins HM.out hk4 hS4 hio3⟩))
    clear hN0 hpre hh1 hh2 hN1 e1 e2 e3 hI hxm hS hTL hIn hqb hqe hrl
    dsimp only
    by_cases he : qe = 0
    · have hed : ((qe : Int) != 0) = false := by rw [he]; rfl
      have HE0 := Aside0.mk he
      clear he
      cases qb with
      | true =>
        gi_wp2_with (first
          | ((try refine ⟨trivial, ?_⟩); gi_at_call 18; refine (callsIn_wide.2 HInr.out).mono ?_; rintro e w4 ⟨rfl, hk4, hI4⟩; have HK4 := Aside0.mk hk4; have HI4 := Aside0.mk hI4; have kN4 := one_cell hI4.kN; have fN4 := one_free hI4.kN; clear hk4 hI4))
        have hKs : MergK b1 bN bR bE W1 (w4.setCell ⟨bN, 0, none⟩ (.int .i64 ((n : Int) + 1))) := (MergK.ins HK4.out).set (.inl rfl) _
        have e4 := HE.out
        exact ⟨hKs.keeps HM.out, hKs.kpf (merg_fp HM.out HFP.out).1 (merg_fp HM.out HFP.out).2.1 (merg_fp HM.out HFP.out).2.2.1 (merg_fp HM.out HFP.out).2.2.2, Nat.le_trans HNN.out hKs.size, n + 1, insTo o1 L x, rest', by rw [← e4.1]; simp, by rw [e4.2.1, mergeS_go (by rw [← HQ.out.2]; exact HE0.out), ← HQ.out.1]; rfl, by simp; exact e4.2.2, (HI4.out.set HM.out).1 _⟩
      | false =>
        gi_wp2_with (first
          | ((try refine ⟨trivial, ?_⟩); gi_at_call 18; refine (callsIn_wide.2 HInr.out).mono ?_; rintro e w4 ⟨rfl, hk4, hI4⟩; have HK4 := Aside0.mk hk4; have HI4 := Aside0.mk hI4; clear hk4 hI4))
        have hKs : MergK b1 bN bR bE W1 w4 := MergK.ins HK4.out
        have e4 := HE.out
        exact ⟨hKs.keeps HM.out, hKs.kpf (merg_fp HM.out HFP.out).1 (merg_fp HM.out HFP.out).2.1 (merg_fp HM.out HFP.out).2.2.1 (merg_fp HM.out HFP.out).2.2.2, Nat.le_trans HNN.out hKs.size, n, insTo o1 L x, rest', by rw [← e4.1]; simp, by rw [e4.2.1, mergeS_go (by rw [← HQ.out.2]; exact HE0.out), ← HQ.out.1]; rfl, by simp; exact Nat.le_succ_of_le e4.2.2, HI4.out⟩
    · have hed : ((qe : Int) != 0) = true := bne_iff_ne.2 (by omega)
      have HE0 := Aside0.mk he
      clear he
      gi_wp2_with (first
        | ((try refine ⟨trivial, ?_⟩); gi_at_call 18; refine (callsIn_wide.2 HInr.out).mono ?_; rintro e w4 ⟨rfl, hk4, hI4⟩; have HK4 := Aside0.mk hk4; have HI4 := Aside0.mk hI4; have kN4 := one_cell hI4.kN; have kR4 := one_cell hI4.kR; have fR4 := one_free hI4.kR; have kE4 := one_cell hI4.kE; have fE4 := one_free hI4.kE; have n6 := HM.out.n6; have n6' := n6.symm; clear hk4 hI4))
      have hKs : MergK b1 bN bR bE W1 ((w4.setCell ⟨bR, 0, none⟩ (.int .i64 (n : Int))).setCell ⟨bE, 0, none⟩ (.int .i64 (qe : Int))) := ((MergK.ins HK4.out).set (.inr (.inl rfl)) _).set (.inr (.inr rfl)) _
      have e4 := HE.out
      have hst : (insAns o1 L x).2 ≠ 0 := by rw [← HQ.out.2]; exact HE0.out
      refine ⟨hKs.keeps HM.out, rfl, n, qe, L, by rw [e4.2.1, mergeS_stop hst, ← HQ.out.2], n, ?_⟩
      have := ((((HI4.out.set HM.out).2.1 (n : Int)).set HM.out).2.2 (qe : Int))
      rwa [insTo_err hst] at this
  case done =>
    rintro N D W7 hNw hD ⟨hN, n, L, rest, e1, e2, e3, hI⟩ hK
    have hr0 : rest = [] := by
      have := congrArg List.length e1
      simp at this
      exact this
    subst hr0
    have HE := Aside0.mk e2
    have HI := Aside0.mk hI
    have HK := Aside0.mk hK
    have kN := one_cell hI.kN
    have kR := one_cell hI.kR
    have fR := one_free hI.kR
    have kE := one_cell hI.kE
    have fE := one_free hI.kE
    have n6 := HM.out.n6
    have n6' := n6.symm
    clear e1 e2 e3 hI hK hN
    gi_wp2
    have hI8 := ((((HI.out.set HM.out).2.1 (n : Int)).set HM.out).2.2 (0 : Int))
    obtain ⟨W8, hW8⟩ : ∃ W8, W8 = (W7.setCell ⟨bR, 0, none⟩ (.int .i64 (n : Int))).setCell ⟨bE, 0, none⟩ (.int .i64 0) := ⟨_, rfl⟩
    have hK8 : W8.heap[D]? = some (.deferred (some [])) := by
      have h1 := HM.out.lR
      have h2 := HM.out.lE
      rw [hW8, Below.heap_setCell _ _ _ _ (by show D ≠ bE; omega), Below.heap_setCell _ _ _ _ (by show D ≠ bR; omega)]
      exact HK.out
    rw [← hW8] at hI8 ⊢
    refine ⟨by simp, .inl ⟨_, _, rfl, run_takeDeferred hK8, ?_⟩⟩
    have hI9 := hI8.grown HM.out (grownBy_putObj' W8 D (.deferred none)) (fun r e => by cases e; exact ⟨by omega, _, hK8, rfl⟩)
    have hR9 := one_cell hI9.kR
    have hE9 := one_cell hI9.kE
    have hc := merge_close SW.out hI9 HS2.out HFP.out HX.out.1 HZ.out.2.2.2.2 H2.out.nok
    have hfin : mergeS o1 T1.io 0 T2.io = (n, 0, L) := HE.out
    rw [hfin]
    exact ⟨.tuple #[.int .i64 (n : Int), .int .i64 0], by simp [results, Try.results35, go_sem, hR9, hE9], rfl, hc⟩
  case stop =>
    rintro N D c pre W7 hNw hD hpre ⟨rfl, n, e, L, e1, x, hI⟩ hK
    have HE := Aside0.mk e1
    have HI := Aside0.mk hI
    have HK := Aside0.mk hK
    clear e1 hI hK hpre
    gi_wp2
    refine ⟨by simp, .inl ⟨_, _, rfl, run_takeDeferred HK.out, ?_⟩⟩
    have hI9 := HI.out.grown HM.out (grownBy_putObj' W7 D (.deferred none)) (fun r e => by cases e; exact ⟨by omega, _, HK.out, rfl⟩)
    have hR9 := one_cell hI9.kR
    have hE9 := one_cell hI9.kE
    have hc := merge_close SW.out hI9 HS2.out HFP.out HX.out.1 HZ.out.2.2.2.2 H2.out.nok
    rw [HE.out]
    exact ⟨.tuple #[.int .i64 (n : Int), .int .i64 (e : Int)], by simp [results, Try.results35, go_sem, hR9, hE9], rfl, hc⟩

end Go.Proofs.Ytcmllllbmgcnlaa.Tup

namespace Go.Proofs.Ytcmllllbmgcnlaa.Tup
open Go.RowKit Go.Lib Go.Shelf Go.Proofs.Ytcmllllbmgcnlaa.F Go.Proofs.YtcmllllbmgcnlaaW.PrintWords Go.Proofs.YtcmllllbmgcnlaaW.PrintLast Go.Proofs.YtcmllllbmgcnlaaW.PrintMore
set_option linter.unusedVariables false
set_option linter.unusedSimpArgs false

/-- Rows whose cells are told. -/
theorem C_of_cells {W : World} {ok : Nat → Prop} {A : Option Addr} {xs : List Tp} {us : List Value} (hE : Els (El KT W ok) xs us) (hm : xs.length ≤ 9223372036854775807) (hA : A = none → xs.length = 0) (hc : ∀ ad, A = some ad → ∀ j u, us[j]? = some u → W.cell? (ad.add j) = some u) : Kd.C KT W A xs.length xs := by
  refine ⟨rfl, hm, fun hp => ?_⟩
  cases A with
  | none => have := hA rfl; omega
  | some ad =>
    refine ⟨ad, rfl, fun j p hj => ?_⟩
    obtain ⟨hjl, rfl⟩ := List.getElem?_eq_some_iff.1 hj
    have hju : j < us.length := by rw [hE.len]; exact hjl
    refine ⟨[us[j]], rfl, Kd.FK_now (hE.get j hjl hju), fun i u hu => ?_⟩
    cases i with
    | zero =>
      simp at hu
      subst hu
      rw [show j * Kd.sz KT + 0 = j from by show j * 1 + 0 = j; omega]
      exact hc ad rfl j _ (List.getElem?_eq_getElem hju)
    | succ i => simp at hu

/-- A list of tuples, read. -/
def ListC (W : World) (M : List Tp) (e : Ending) (w' : World) : Prop := ∃ A c, e = .returned (.slice A M.length c) ∧ M.length ≤ c ∧ Kd.C KT w' A M.length M ∧ Below W.heap.size W w'

set_option maxHeartbeats 4000000 in
set_option maxRecDepth 100000 in
theorem rrange_calls {ok : Nat → Prop} (W : World) (b j : Nat) {A : Option Addr} {c : Nat} {o : Tp} {Ar : Option Addr} {cr : Nat} {L : List Tp} (h : RefAt ok W b j A c o Ar cr L) (k : Int) (At : Option Addr) (ct : Nat) (t : Tp) (st : Sl W At ct t) :
    Calls Try.prog 66 #[.pointer (some ⟨b, j, none⟩), .int .i64 k, .slice At t.length ct] W (ListC W (L.filter fun x => headS o k x t)) := by
  have h0 := h.c0
  have h1 := h.c1
  obtain ⟨n, hn⟩ : ∃ n, n = L.length := ⟨_, rfl⟩
  rw [← hn] at h1
  have HN := Aside0.mk hn
  have hnl : n ≤ 1024 := by rw [hn]; exact h.le
  obtain ⟨us, hE, hul, hA, hcel⟩ := rows_out rfl (Kd.F_bound h.R)
  have HU := Aside0.mk (And.intro hE (And.intro hul (And.intro hA hcel)))
  have HSO := Aside0.mk h.slo
  have HST := Aside0.mk st
  have HOL : Aside0 (o.length ≤ 9223372036854775806) := ⟨by have := h.rto.1; omega⟩
  have H0 := Aside0.mk h0
  have H1 := Aside0.mk h1
  clear h st hn hE hul hA hcel
  go_enter Try.func66, Try.ntmps66
  go_wp2_with fail
  clear h0 h1
  go_loopg [7, 8] n (fun gk v7 v8 wr => ∃ (i : Nat) (vs : List Value) (A7 : Option Addr) (c7 : Nat), v8 = .int .i64 (i : Int) ∧ v7 = .slice A7 vs.length c7 ∧ Aside0 (i + gk = n) ∧ Aside0 (wr.ownsRow W.heap.size 22 1 (.slice A7 vs.length c7) vs.length vs) ∧ Aside0 (Els (El KT wr (fun k => ok k ∧ k < W.heap.size)) ((L.take i).filter fun x => headS o k x t) vs) ∧ Aside0 (Below W.heap.size W wr))
  case atStart => exact ⟨0, [], none, 0, rfl, rfl, ⟨by omega⟩, ⟨World.ownsRow_nil _ _ _ _⟩, ⟨by simp; exact .nil⟩, ⟨Below.refl _ _⟩⟩
  case round =>
    obtain ⟨i, vs, A7, c7, rfl, rfl, HI, HO, HEV, HB⟩ := hrel
    have h0 := pw_cell_below HB.out H0.out
    have h1 := pw_cell_below HB.out H1.out
    by_cases hi : i < n
    · have hid : decide (i < n) = true := decide_eq_true hi
      have hii : (i : Int) < (n : Int) := by omega
      have HIL := Aside0.mk hi
      have hil : i < L.length := by rw [← HN.out]; exact hi
      have hiu : i < us.length := by rw [HU.out.2.1, ← HN.out]; exact hi
      cases Ar with
      | none => have := HU.out.2.2.1 rfl; omega
      | some ad =>
        have hcell := pw_cell_below HB.out (HU.out.2.2.2 ad rfl i _ (List.getElem?_eq_getElem hiu))
        have hel := HU.out.1.get i hil hiu
        obtain ⟨u, hu⟩ : ∃ u, u = us[i] := ⟨_, rfl⟩
        obtain ⟨x, hx⟩ : ∃ x, x = L[i] := ⟨_, rfl⟩
        rw [← hu] at hcell hel
        rw [← hx] at hel
        have HX := Aside0.mk hx
        obtain ⟨Ai, ci, rfl, hci, hFi⟩ := el_tup hel
        have hsx : Sl wr Ai ci x := ⟨Kd.F_now (Kd.F_below hFi HB.out), hci⟩
        have HEL := Aside0.mk (hel.step fun k _ hk => HB.out.block k hk)
        have HC : Aside0 (∀ w, Since wr w → Calls Try.prog 31 #[.slice A o.length c, .int .i64 k, .slice Ai x.length ci, .slice At t.length ct] w fun e w' => e = .returned (.bool (headS o k x t)) ∧ Drawn0 w w') := ⟨fun w hw => rhead_calls A c o k Ai ci x At ct t w (hw.sl (HSO.out.below HB.out)) (hw.sl hsx) (hw.sl (HST.out.below HB.out)) HOL.out⟩
        have hft : (L.take (i + 1)).filter (fun x => headS o k x t) = (L.take i).filter (fun x => headS o k x t) ++ (if headS o k x t then [x] else []) := by
          rw [List.take_succ_eq_append_getElem hil, List.filter_append, ← hx]
          by_cases hh : headS o k x t = true <;> simp [hh]
        have HFT := Aside0.mk hft
        have HVL : Aside0 (vs.length ≤ 1024 ∧ W.heap.size ≤ wr.heap.size) := ⟨by rw [HEV.out.len]; have := List.length_filter_le (fun x => headS o k x t) (L.take i); simp at this; omega, HB.out.size⟩
        clear hu hx hel hci hFi hsx hft hi
        obtain ⟨z, hz⟩ : ∃ z, z = headS o k x t := ⟨_, rfl⟩
        rw [← hz] at HC HFT
        clear hz
        cases z with
        | true =>
          go_wp2_with fail
          go_quiet (first | (go_at_call 31; refine (HC.out _ (by repeat (first | exact Since.refl _ | refine Since.drewN ?_ _))).mono ?_; rintro e w' ⟨rfl, ⟨nd, rfl⟩⟩; first | exact ⟨rfl, _, World.drewN_drewN _ _ _⟩ | exact ⟨rfl, _, Eq.trans (World.drewN_drewN _ _ _) (congrArg (World.drewN _) (Nat.add_assoc _ _ _))⟩))
          go_wp2_with (first
            | ((with_reducible refine gate_builtin (b := .append) (xs := #[.tmp 32, .tmp 40]) rfl ?_); at_builtin; refine print_append (W := wr.drewN nq) (w0 := W) W.heap.size rfl (.tmp 32) (.tmp 40) 23 22 (.slice none 0 0) 24 rfl Try.underlying23 infoL rfl (by decide) (.slice A7 vs.length c7) vs (.slice Ai x.length ci) rfl rfl rfl HO.out (pw_below_drewN HB.out nq) HVL.out.2 ?aL ?_; (case aL => have := HVL.out; omega); intro v6 w6 q6 b6 g6 t6; have HO6 := Aside0.mk q6; have HB6 := Aside0.mk b6; have HE6 : Aside0 (Els (El KT w6 (fun k => ok k ∧ k < W.heap.size)) ((L.take i).filter (fun x => headS o k x t) ++ [x]) (vs ++ [.slice Ai x.length ci])) := ⟨Els.append (els_step HEV.out fun k hk hlt => (b6.block k hk.2).trans (HB.out.block k hk.2).symm) (.cons (HEL.out.step fun k hk hlt => (b6.block k hk.2).trans (HB.out.block k hk.2).symm) .nil)⟩; obtain ⟨A8, c8, hv6⟩ := own_slice q6; subst hv6; clear q6 b6 g6 t6))
          obtain ⟨g2, hg2⟩ : ∃ g2, g2 = gk - 1 := ⟨_, rfl⟩
          go_roundg g2
          case measure => have := HI.out; have := HIL.out; omega
          case rel => exact ⟨i + 1, vs ++ [.slice Ai x.length ci], A8, c8, by (have := HIL.out; go_num), by simp, ⟨by have := HI.out; have := HIL.out; omega⟩, HO6, ⟨by rw [HFT.out]; exact HE6.out⟩, HB6⟩
        | false =>
          go_wp2_with fail
          go_quiet (first | (go_at_call 31; refine (HC.out _ (by repeat (first | exact Since.refl _ | refine Since.drewN ?_ _))).mono ?_; rintro e w' ⟨rfl, ⟨nd, rfl⟩⟩; first | exact ⟨rfl, _, World.drewN_drewN _ _ _⟩ | exact ⟨rfl, _, Eq.trans (World.drewN_drewN _ _ _) (congrArg (World.drewN _) (Nat.add_assoc _ _ _))⟩))
          go_wp2
          obtain ⟨g2, hg2⟩ : ∃ g2, g2 = gk - 1 := ⟨_, rfl⟩
          go_roundg g2
          case measure => have := HI.out; have := HIL.out; omega
          case rel => exact ⟨i + 1, vs, A7, c7, by (have := HIL.out; go_num), rfl, ⟨by have := HI.out; have := HIL.out; omega⟩, ⟨HO.out⟩, ⟨by rw [HFT.out]; simp; exact els_step HEV.out fun _ _ _ => rfl⟩, ⟨pw_below_drewN HB.out _⟩⟩
    · have hid : decide (i < n) = false := decide_eq_false hi
      have hin : i = L.length := by have := HI.out; have := HN.out; omega
      rw [hin, List.take_length] at HEV
      have HVN : Aside0 (vs.length = (L.filter fun x => headS o k x t).length) := ⟨HEV.out.len⟩
      clear hin hi
      go_wp2_with fail
      go_ret
      rw [HVN.out] at HO ⊢
      have hcl : (L.filter fun x => headS o k x t).length ≤ c7 := own_cap HO.out
      obtain ⟨A', c', e', hle, hFF⟩ := rows_in rfl HO.out HEV.out rfl
      injection e' with e1 e2 e3
      subst e1
      exact ⟨A7, c7, rfl, hcl, Kd.F_now hFF, HB.out⟩

set_option maxHeartbeats 4000000 in
set_option maxRecDepth 100000 in
theorem rfrom_width {ok : Nat → Prop} (W : World) (b j : Nat) {A : Option Addr} {c : Nat} {o : Tp} {Ar : Option Addr} {cr : Nat} {L : List Tp} (h : RefAt ok W b j A c o Ar cr L) (At : Option Addr) (ct : Nat) (t : Tp) (hl : t.length ≠ o.length) :
    Calls Try.prog 67 #[.pointer (some ⟨b, j, none⟩), .slice At t.length ct] W (ListC W []) := by
  have h0 := h.c0
  have hd : ((t.length : Int) != (o.length : Int)) = true := bne_iff_ne.2 (by omega)
  clear h hl
  go_enter Try.func67, Try.ntmps67
  go_wp2
  go_ret
  exact ⟨none, 0, rfl, Nat.le_refl _, Kd.C_nil KT W, Below.refl _ _⟩

set_option maxHeartbeats 4000000 in
set_option maxRecDepth 100000 in
theorem rfrom_calls {ok : Nat → Prop} (W : World) (b j : Nat) {A : Option Addr} {c : Nat} {o : Tp} {Ar : Option Addr} {cr : Nat} {L : List Tp} (h : RefAt ok W b j A c o Ar cr L) (hu : Up o L) (At : Option Addr) (ct : Nat) (t : Tp) (st : Sl W At ct t) :
    Calls Try.prog 67 #[.pointer (some ⟨b, j, none⟩), .slice At t.length ct] W (ListC W (fromL o t L)) := by
  by_cases hl : t.length = o.length
  · rw [from_ref h.rto h.fit hu hl]
    have hT := fun m => rat_calls (W.drewN m) b j (h.since ((Since.refl W).drewN m)) At ct t (st.drewN m)
    obtain ⟨q, hq⟩ : ∃ q, q = ratL o L t := ⟨_, rfl⟩
    rw [← hq] at hT ⊢
    have hqn : q ≤ L.length := by rw [hq]; exact ratL_le o L t
    have hql : q ≤ cr := Nat.le_trans hqn h.sl
    have hlc : L.length ≤ cr := h.sl
    have h0 := h.c0
    have h1 := h.c1
    obtain ⟨n, hn⟩ : ∃ n, n = L.length := ⟨_, rfl⟩
    rw [← hn] at h1 hqn hlc
    obtain ⟨us, hE, hul, hA, hcel⟩ := rows_out rfl h.R
    rw [← hn] at hul hA
    have hDr := drop_cells (q := q) hul hlc hA hcel hqn
    have HD := Aside0.mk (C_of_cells (hE.drop q) (by rw [List.length_drop, ← hn]; have := h.le; omega) (fun e => by have := hDr.1 e; rw [List.length_drop, ← hn]; exact this) hDr.2)
    have HN := Aside0.mk hn
    have HT := Aside0.mk hT
    rw [hl] at hT ⊢
    have hd : ((o.length : Int) != (o.length : Int)) = false := by simp
    clear h hu st hq hn hE hul hA hcel hDr hl
    go_enter Try.func67, Try.ntmps67
    have hqI : (q : Int) ≤ (n : Int) := by omega
    have hqC : (q : Int) ≤ (cr : Int) := by omega
    go_wp2_with fail
    go_quiet (first | (go_at_call 58; refine (hT _).mono ?_; rintro e w' ⟨rfl, ⟨nd, rfl⟩⟩; first | exact ⟨rfl, _, World.drewN_drewN _ _ _⟩ | exact ⟨rfl, _, Eq.trans (World.drewN_drewN _ _ _) (congrArg (World.drewN _) (Nat.add_assoc _ _ _))⟩))
    go_wp2
    all_goals go_ret
    all_goals (
      have hD := HD.out
      have hlen : (L.drop q).length = n - q := by rw [List.length_drop, HN.out]
      first
        | (rw [if_pos (by assumption)] at hD
           rw [← hlen]
           exact ⟨_, _, rfl, by omega, hD, pw_below_drewN (Below.refl _ _) _⟩)
        | (rw [if_neg (by assumption)] at hD
           rw [← hlen]
           exact ⟨_, _, rfl, by omega, hD, pw_below_drewN (Below.refl _ _) _⟩))
  · rw [from_no hl]
    exact rfrom_width W b j h At ct t hl

end Go.Proofs.Ytcmllllbmgcnlaa.Tup

namespace Go.Proofs.Ytcmllllbmgcnlaa.Tup
open Go.RowKit Go.Lib Go.Shelf Go.Proofs.Ytcmllllbmgcnlaa.F Go.Proofs.YtcmllllbmgcnlaaW.PrintWords Go.Proofs.YtcmllllbmgcnlaaW.PrintLast Go.Proofs.YtcmllllbmgcnlaaW.PrintMore
set_option linter.unusedVariables false
set_option linter.unusedSimpArgs false

theorem RAfter.refl (b j : Nat) (W : World) : RAfter b j W W := ⟨Kept1.below (Below.refl _ _), fun _ _ h _ => h, fun _ _ => rfl⟩
theorem RAfter.trans {b j : Nat} {W W1 W2 : World} (h : RAfter b j W W1) (g : RAfter b j W1 W2) : RAfter b j W W2 :=
  ⟨h.k.trans g.k, fun q v hq hne => g.c q v (h.c q v hq hne) hne, fun q hq => (g.f q (Nat.lt_of_lt_of_le hq h.k.g.size)).trans (h.f q hq)⟩
theorem RAfter.since {b j : Nat} {W W1 : World} (h : Since W W1) : RAfter b j W W1 :=
  ⟨Kept1.below h.b, fun q v hq _ => pw_cell_below h.b hq, fun q hq => h.b.frozen hq⟩

set_option maxHeartbeats 4000000 in
set_option maxRecDepth 100000 in
theorem rmerge_width {ok : Nat → Prop} (W : World) (b j : Nat) {A : Option Addr} {c : Nat} {o : Tp} {Ar : Option Addr} {cr : Nat} {L : List Tp} (h : RefAt ok W b j A c o Ar cr L) (A2 : Option Addr) (n2 c2 : Nat) (A3 : Option Addr) (n3 c3 : Nat) (hw : o.length ≠ n2) :
    Calls Try.prog 68 #[.pointer (some ⟨b, j, none⟩), .agg #[.slice A2 n2 c2, .slice A3 n3 c3]] W fun e w' => e = .returned (.tuple #[.int .i64 0, .int .i64 14]) ∧ Below W.heap.size W w' := by
  have hs := (Since.refl W).alloc (.cells #[.slice A2 n2 c2, .slice A3 n3 c3] 45)
  have h0 := (h.since hs).c0
  have hd : ((o.length : Int) != (n2 : Int)) = true := bne_iff_ne.2 (by omega)
  have HS := Aside0.mk hs
  clear h hw hs
  go_enter Try.func68, Try.ntmps68
  go_wp2
  go_region
  all_goals go_wp2
  all_goals go_ret2
  exact ⟨rfl, HS.out.b.drew⟩

set_option maxHeartbeats 8000000 in
set_option maxRecDepth 100000 in
theorem rmerge_main {ok ok2 : Nat → Prop} (W : World) (b j : Nat) {A : Option Addr} {c : Nat} {o : Tp} {Ar : Option Addr} {cr : Nat} {L1 : List Tp} (h : RefAt ok W b j A c o Ar cr L1) (hu : Up o L1) (hb : ¬ ok b) (hok : ∀ k, W.heap.size ≤ k → ok k) (A2 : Option Addr) (n2 c2 : Nat) (A3 : Option Addr) (c3 : Nat) (L2 : List Tp) (hF : Kd.F KT W ok2 A3 L2.length L2) (hb2 : ¬ ok2 b) (hw : o.length = n2) (hn : L2.length ≤ 1024) :
    Calls Try.prog 68 #[.pointer (some ⟨b, j, none⟩), .agg #[.slice A2 n2 c2, .slice A3 L2.length c3]] W fun e w' => e = .returned (.tuple #[.int .i64 ((mergeS o L1 0 L2).1 : Int), .int .i64 ((mergeS o L1 0 L2).2.1 : Int)]) ∧ ∃ Al cl, RefAt ok w' b j A c o Al cl (mergeS o L1 0 L2).2.2 ∧ RAfter b j W w' := by
  have hs := (Since.refl W).alloc (.cells #[.slice A2 n2 c2, .slice A3 L2.length c3] 45)
  have h0 := (h.since hs).c0
  have hd : ((o.length : Int) != (n2 : Int)) = false := by rw [hw]; simp
  have hbx := heap_alloc_new W (.cells #[.slice A2 n2 c2, .slice A3 L2.length c3] 45)
  have hblt : b < W.heap.size := World.block_lt_of_cell? W _ h.c0
  have H := Aside0.mk h
  have HS := Aside0.mk hs
  have HBX := Aside0.mk hbx
  have HF := Aside0.mk hF
  have HX := Aside0.mk (And.intro hb (And.intro hok (And.intro hb2 hblt)))
  have HUP := Aside0.mk hu
  have HN := Aside0.mk hn
  obtain ⟨n, hnn⟩ : ∃ n, n = L2.length := ⟨_, rfl⟩
  have HNN := Aside0.mk hnn
  have hn2 : n ≤ 1024 := by omega
  rw [← hnn] at hs h0 ⊢
  rw [← hnn] at HBX HS HF
  clear h hu hb hok hF hb2 hw hs hbx hblt hn hnn
  go_enter Try.func68, Try.ntmps68
  go_wp2
  go_region
  all_goals go_wp2_with fail
  obtain ⟨w0, hw0⟩ : ∃ w0, w0 = (W.alloc (.cells #[.slice A2 n2 c2, .slice A3 n c3] 45)).drew := ⟨_, rfl⟩
  have S0 := Aside0.mk (show Since W w0 by rw [hw0]; exact HS.out.drew)
  have K0 : Aside0 (w0.heap[W.heap.size]? = some (.cells #[.slice A2 n2 c2, .slice A3 n c3] 45 (0, 0)) ∧ W.heap.size < w0.heap.size) := ⟨by rw [hw0]; exact ⟨HBX.out, by simp⟩⟩
  rw [← hw0]
  clear hw0
  go_loopg [6, 7] n (fun gk v6 v7 wr => ∃ i m Li Al cl, v6 = .int .i64 ((m : Nat) : Int) ∧ v7 = .int .i64 ((i : Nat) : Int) ∧ Aside0 (i + gk = n ∧ m ≤ i) ∧ Aside0 (RefAt ok wr b j A c o Al cl Li ∧ Up o Li) ∧ Aside0 (mergeS o L1 0 L2 = mergeS o Li m (L2.drop i)) ∧ Aside0 (RAfter b j w0 wr))
  case atStart => exact ⟨0, 0, L1, Ar, cr, rfl, rfl, ⟨by omega, by omega⟩, ⟨H.out.since S0.out, HUP.out⟩, ⟨by simp⟩, ⟨RAfter.refl _ _ _⟩⟩
  case round =>
    obtain ⟨i, m, Li, Al, cl, rfl, rfl, HI, HR, HM, HA⟩ := hrel
    have hi1 : i ≤ 1024 := by have := HI.out; omega
    have hm1 : m ≤ 1024 := by have := HI.out; omega
    have hblk := Aside0.mk ((HA.out.k.heap K0.out.2 (by have := HX.out.2.2.2; omega)).trans K0.out.1)
    have k1 : wr.cell? ⟨W.heap.size, 1, none⟩ = some (.slice A3 n c3) := (cell_of_heap hblk.out 1).trans rfl
    have hCC := Aside0.mk (show Kd.C KT wr A3 n L2 from Kd.F_now (Kd.F_step (Kd.F_step HF.out fun k hk hlt => S0.out.b.block k hlt) fun k hk hlt => HA.out.k.heap hlt fun e => HX.out.2.2.1 (e ▸ hk)))
    by_cases hi : i < n
    · have hid : decide (i < n) = true := decide_eq_true hi
      have hii : (i : Int) < (n : Int) := by omega
      have hil : i < L2.length := by rw [← HNN.out]; exact hi
      obtain ⟨ad, Ai, ci, rfl, hcell, sl⟩ := tup_at hCC.out i hil
      obtain ⟨x, hx⟩ : ∃ x, x = L2[i] := ⟨_, rfl⟩
      rw [← hx] at hcell sl
      have SL := Aside0.mk sl
      have hIn := rins_calls wr b j HR.out.1 HR.out.2 Ai ci x sl
      obtain ⟨qb, hqb⟩ : ∃ q, q = (insAns o Li x).1 := ⟨_, rfl⟩
      obtain ⟨qe, hqe⟩ : ∃ q, q = (insAns o Li x).2 := ⟨_, rfl⟩
      have HQ := Aside0.mk (And.intro hqb hqe)
      have hdr := Aside0.mk (show L2.drop i = x :: L2.drop (i + 1) by rw [hx]; exact List.drop_eq_getElem_cons hil)
      have HInr := Aside0.mk (hIn.mono (fun e w' (h : RInsR ok wr b j o Li x e w') => show e = .returned (.tuple #[.bool qb, .int .i64 (qe : Int)]) ∧ ∃ Al' cl', Aside0 (RefAt ok w' b j A c o Al' cl' (insTo o Li x) ∧ RAfter b j wr w') from by
        have e1 := h.1
        rw [← hqb, ← hqe] at e1
        obtain ⟨Al', cl', h2, h3⟩ := rins_after HR.out.1 HX.out.1 h HR.out.2
        exact ⟨e1, Al', cl', ⟨h2.mono (fun k hk => hk.elim id fun hk => HX.out.2.1 k (by have := S0.out.b.size; have := HA.out.k.g.size; omega)), h3⟩⟩))
      have hup := Aside0.mk (insTo_good (t := x) H.out.rto ⟨HR.out.1.fit, HR.out.2⟩).up
      clear sl hIn hqb hqe hx hil
      by_cases he : qe = 0
      · have hed : ((qe : Int) != 0) = false := by rw [he]; rfl
        have HE0 := Aside0.mk he
        clear he
        cases qb with
        | true =>
          go_wp2_with (first
            | (go_at_call 27; refine HInr.out.mono ?_; rintro e w4 ⟨rfl, Al', cl', h4⟩; have HK4 := h4; clear h4))
          obtain ⟨k2, hk2⟩ : ∃ k2, k2 = gk - 1 := ⟨_, rfl⟩
          go_roundg k2
          case measure => have := HI.out; omega
          case rel =>
            refine ⟨i + 1, m + 1, insTo o Li x, Al', cl', by go_num, by go_num, ⟨by have := HI.out; omega, by have := HI.out; omega⟩, ⟨HK4.out.1, hup.out⟩, ⟨?_⟩, ⟨HA.out.trans HK4.out.2⟩⟩
            rw [HM.out, hdr.out, mergeS_go (by rw [← HQ.out.2]; exact HE0.out), ← HQ.out.1]; rfl
        | false =>
          go_wp2_with (first
            | (go_at_call 27; refine HInr.out.mono ?_; rintro e w4 ⟨rfl, Al', cl', h4⟩; have HK4 := h4; clear h4))
          obtain ⟨k2, hk2⟩ : ∃ k2, k2 = gk - 1 := ⟨_, rfl⟩
          go_roundg k2
          case measure => have := HI.out; omega
          case rel =>
            refine ⟨i + 1, m, insTo o Li x, Al', cl', rfl, by go_num, ⟨by have := HI.out; omega, by have := HI.out; omega⟩, ⟨HK4.out.1, hup.out⟩, ⟨?_⟩, ⟨HA.out.trans HK4.out.2⟩⟩
            rw [HM.out, hdr.out, mergeS_go (by rw [← HQ.out.2]; exact HE0.out), ← HQ.out.1]; rfl
      · have hed : ((qe : Int) != 0) = true := bne_iff_ne.2 (by omega)
        have HE0 := Aside0.mk he
        clear he
        go_wp2_with (first
          | (go_at_call 27; refine HInr.out.mono ?_; rintro e w4 ⟨rfl, Al', cl', h4⟩; have HK4 := h4; clear h4))
        go_ret2
        have hst : (insAns o Li x).2 ≠ 0 := by rw [← HQ.out.2]; exact HE0.out
        have hfin : mergeS o L1 0 L2 = (m, qe, Li) := by rw [HM.out, hdr.out, mergeS_stop hst, ← HQ.out.2]
        have h4 := HK4.out.1
        rw [insTo_err hst] at h4
        rw [hfin]
        exact ⟨rfl, Al', cl', h4, (RAfter.since S0.out).trans (HA.out.trans HK4.out.2)⟩
    · have hid : decide (i < n) = false := decide_eq_false hi
      have hii : ¬ (i : Int) < (n : Int) := by omega
      go_wp2
      go_ret2
      have hd0 : L2.drop i = [] := List.drop_eq_nil_of_le (by rw [← HNN.out]; omega)
      have hfin : mergeS o L1 0 L2 = (m, 0, Li) := by rw [HM.out, hd0]; rfl
      rw [hfin]
      exact ⟨rfl, ⟨Al, cl, HR.out.1⟩, (RAfter.since S0.out).trans HA.out⟩

end Go.Proofs.Ytcmllllbmgcnlaa.Tup

namespace Go.Proofs.Ytcmllllbmgcnlaa.Tup
open Go.RowKit Go.Lib Go.Shelf Go.Proofs.Ytcmllllbmgcnlaa.F Go.Proofs.YtcmllllbmgcnlaaW.PrintWords Go.Proofs.YtcmllllbmgcnlaaW.PrintLast Go.Proofs.YtcmllllbmgcnlaaW.PrintMore
set_option linter.unusedVariables false
set_option linter.unusedSimpArgs false

/-- All but three blocks are as they were. -/
structure Kept3 (b0 b1 bw : Nat) (W w' : World) : Prop where
  os : w'.os = W.os
  tape : w'.tape = W.tape
  output : w'.output = W.output
  size : W.heap.size ≤ w'.heap.size
  heap : ∀ k, k < W.heap.size → k ≠ b0 → k ≠ b1 → k ≠ bw → w'.heap[k]? = W.heap[k]?
theorem Kept3.refl (b0 b1 bw : Nat) (W : World) : Kept3 b0 b1 bw W W := ⟨rfl, rfl, rfl, Nat.le_refl _, fun _ _ _ _ _ => rfl⟩
theorem Kept3.trans {b0 b1 bw : Nat} {W W1 W2 : World} (h : Kept3 b0 b1 bw W W1) (g : Kept3 b0 b1 bw W1 W2) : Kept3 b0 b1 bw W W2 :=
  ⟨g.os.trans h.os, g.tape.trans h.tape, g.output.trans h.output, Nat.le_trans h.size g.size, fun k hk h0 h1 h2 => (g.heap k (Nat.lt_of_lt_of_le hk h.size) h0 h1 h2).trans (h.heap k hk h0 h1 h2)⟩
theorem Kept3.since {b0 b1 bw : Nat} {W W1 : World} (h : Since W W1) : Kept3 b0 b1 bw W W1 := ⟨h.b.os, h.b.tape, h.b.output, h.b.size, fun k hk _ _ _ => h.b.block k hk⟩
theorem Kept3.one {b0 b1 bw b : Nat} {W W1 : World} (h : Kept1 b W W1) (hb : b = b0 ∨ b = b1 ∨ b = bw) : Kept3 b0 b1 bw W W1 :=
  ⟨h.g.os, h.g.tape, h.g.output, h.g.size, fun k hk h0 h1 h2 => h.heap hk (by rcases hb with rfl | rfl | rfl <;> assumption)⟩
theorem Kept3.two {b0 b1 bw : Nat} {W W1 : World} (h : KeptTwo b0 b1 W W1) : Kept3 b0 b1 bw W W1 :=
  ⟨h.os, h.tape, h.output, h.size, fun k hk h0 h1 _ => h.heap k hk h0 h1⟩
theorem Kept3.symm {b0 b1 bw : Nat} {W W1 : World} (h : Kept3 b0 b1 bw W W1) : Kept3 b1 b0 bw W W1 := ⟨h.os, h.tape, h.output, h.size, fun k hk h0 h1 h2 => h.heap k hk h1 h0 h2⟩
theorem KeptTwo.since {b0 b1 : Nat} {W W1 : World} (h : Since W W1) : KeptTwo b0 b1 W W1 := ⟨h.b.os, h.b.tape, h.b.output, h.b.size, fun k hk _ _ => h.b.block k hk⟩

def Not3 (b0 b1 bw : Nat) (k : Nat) : Prop := k ≠ b0 ∧ k ≠ b1 ∧ k ≠ bw
abbrev ST := Tp × List Tp
/-- The i-th set (bs), the other (bo), the document's: all in the block bw. -/
structure Duo (W : World) (bw i i' bs bo : Nat) (X Y P Q : ST) : Prop where
  ii : (i = 0 ∧ i' = 1) ∨ (i = 1 ∧ i' = 0)
  cs : W.cell? ⟨bw, i, none⟩ = some (.pointer (some ⟨bs, 0, none⟩))
  co : W.cell? ⟨bw, i', none⟩ = some (.pointer (some ⟨bo, 0, none⟩))
  S : ∃ A c r T, SetAt (Not3 bs bo bw) W bs A c X.1 r T ∧ T.io = X.2
  O : ∃ A c r T, SetAt (Not3 bs bo bw) W bo A c Y.1 r T ∧ T.io = Y.2
  R : ∃ A c Ar cr, RefAt (Not3 bs bo bw) W bw (2 + 2 * i) A c P.1 Ar cr P.2
  N : ∃ A c Ar cr, RefAt (Not3 bs bo bw) W bw (2 + 2 * i') A c Q.1 Ar cr Q.2
  n1 : bs ≠ bo
  n2 : bs ≠ bw
  n3 : bo ≠ bw
  fr : ∀ j, W.frozen? ⟨bw, j, none⟩ = false
  up : Up P.1 P.2
  uq : Up Q.1 Q.2

section
variable {W W1 : World} {bw i i' bs bo : Nat} {X Y P Q : ST}
theorem Not3.symm {b0 b1 bw k : Nat} (h : Not3 b0 b1 bw k) : Not3 b1 b0 bw k := ⟨h.2.1, h.1, h.2.2⟩
theorem Duo.symm (h : Duo W bw i i' bs bo X Y P Q) : Duo W bw i' i bo bs Y X Q P := by
  obtain ⟨A, c, r, T, hs, e⟩ := h.S
  obtain ⟨A2, c2, r2, T2, ho, e2⟩ := h.O
  obtain ⟨A3, c3, r3, d3, hr⟩ := h.R
  obtain ⟨A4, c4, r4, d4, hq⟩ := h.N
  exact ⟨h.ii.elim (fun h => .inr ⟨h.2, h.1⟩) (fun h => .inl ⟨h.2, h.1⟩), h.co, h.cs, ⟨A2, c2, r2, T2, ho.mono (fun _ => Not3.symm) (fun h => h.1 rfl), e2⟩, ⟨A, c, r, T, hs.mono (fun _ => Not3.symm) (fun h => h.2.1 rfl), e⟩, ⟨A4, c4, r4, d4, hq.mono fun _ => Not3.symm⟩, ⟨A3, c3, r3, d3, hr.mono fun _ => Not3.symm⟩, h.n1.symm, h.n3, h.n2, h.fr, h.uq, h.up⟩
theorem Duo.lw (h : Duo W bw i i' bs bo X Y P Q) : bw < W.heap.size := World.block_lt_of_cell? W _ h.cs
theorem Duo.ls (h : Duo W bw i i' bs bo X Y P Q) : bs < W.heap.size := by obtain ⟨A, c, r, T, hs, e⟩ := h.S; exact hs.lt
theorem Duo.lo (h : Duo W bw i i' bs bo X Y P Q) : bo < W.heap.size := h.symm.ls
theorem Duo.since (h : Duo W bw i i' bs bo X Y P Q) (s : Since W W1) : Duo W1 bw i i' bs bo X Y P Q := by
  obtain ⟨A, c, r, T, hs, e⟩ := h.S
  obtain ⟨A2, c2, r2, T2, ho, e2⟩ := h.O
  obtain ⟨A3, c3, r3, d3, hr⟩ := h.R
  obtain ⟨A4, c4, r4, d4, hq⟩ := h.N
  exact ⟨h.ii, pw_cell_below s.b h.cs, pw_cell_below s.b h.co, ⟨A, c, r, T, hs.since s, e⟩, ⟨A2, c2, r2, T2, ho.since s, e2⟩, ⟨A3, c3, r3, d3, hr.since s⟩, ⟨A4, c4, r4, d4, hq.since s⟩, h.n1, h.n2, h.n3, fun j => (s.b.frozen (p := ⟨bw, j, none⟩) h.lw).trans (h.fr j), h.up, h.uq⟩
theorem not3_plus {b0 b1 bw n k : Nat} (h : b0 < n ∧ b1 < n ∧ bw < n) (hk : Plus (Not3 b0 b1 bw) n k) : Not3 b0 b1 bw k := hk.elim id fun hk => ⟨by omega, by omega, by omega⟩
/-- The first set turned. -/
theorem Duo.set (h : Duo W bw i i' bs bo X Y P Q) {L : List Tp} (hs : ∃ A c r T, SetAt (Not3 bs bo bw) W1 bs A c X.1 r T ∧ T.io = L) (k : Kept1 bs W W1) : Duo W1 bw i i' bs bo (X.1, L) Y P Q := by
  obtain ⟨A2, c2, r2, T2, ho, e2⟩ := h.O
  obtain ⟨A3, c3, r3, d3, hr⟩ := h.R
  obtain ⟨A4, c4, r4, d4, hq⟩ := h.N
  have hB := k.heap h.lw h.n2.symm
  have hc : ∀ j, W1.cell? ⟨bw, j, none⟩ = W.cell? ⟨bw, j, none⟩ := fun j => by unfold World.cell?; simp only [hB]
  have hf : ∀ j, W1.frozen? ⟨bw, j, none⟩ = W.frozen? ⟨bw, j, none⟩ := fun j => by unfold World.frozen?; simp only [hB]
  have hst : ∀ q, Not3 bs bo bw q → q < W.heap.size → W1.heap[q]? = W.heap[q]? := fun q hq hl => k.heap hl hq.1
  exact ⟨h.ii, (hc _).trans h.cs, (hc _).trans h.co, hs, ⟨A2, c2, r2, T2, ho.step hst (k.heap h.lo h.n1.symm), e2⟩, ⟨A3, c3, r3, d3, hr.step hst (hc _) (hc _) (hf _)⟩, ⟨A4, c4, r4, d4, hq.step hst (hc _) (hc _) (hf _)⟩, h.n1, h.n2, h.n3, fun j => (hf j).trans (h.fr j), h.up, h.uq⟩
/-- The document's first turned. -/
theorem Duo.ref (h : Duo W bw i i' bs bo X Y P Q) {L : List Tp} (hr : ∃ A c Ar cr, RefAt (Not3 bs bo bw) W1 bw (2 + 2 * i) A c P.1 Ar cr L) (hu : Up P.1 L) (k : RAfter bw (2 + 2 * i) W W1) : Duo W1 bw i i' bs bo X Y (P.1, L) Q := by
  obtain ⟨A, c, r, T, hs, e⟩ := h.S
  obtain ⟨A2, c2, r2, T2, ho, e2⟩ := h.O
  obtain ⟨A4, c4, r4, d4, hq⟩ := h.N
  have hii := h.ii
  have hst : ∀ q, Not3 bs bo bw q → q < W.heap.size → W1.heap[q]? = W.heap[q]? := fun q hq hl => k.k.heap hl hq.2.2
  have hne : ∀ j, j ≠ 2 + 2 * i + 1 → (⟨bw, j, none⟩ : Addr) ≠ ⟨bw, 2 + 2 * i + 1, none⟩ := fun j hj e => by injection e; omega
  have hf : ∀ j, W1.frozen? ⟨bw, j, none⟩ = W.frozen? ⟨bw, j, none⟩ := fun j => k.f _ h.lw
  exact ⟨h.ii, k.c _ _ h.cs (hne _ (by omega)), k.c _ _ h.co (hne _ (by omega)), ⟨A, c, r, T, hs.step hst (k.k.heap h.ls h.n2), e⟩, ⟨A2, c2, r2, T2, ho.step hst (k.k.heap h.lo h.n3), e2⟩, hr, ⟨A4, c4, r4, d4, hq.step hst ((k.c _ _ hq.c0 (hne _ (by omega))).trans hq.c0.symm) ((k.c _ _ hq.c1 (hne _ (by omega))).trans hq.c1.symm) (hf _)⟩, h.n1, h.n2, h.n3, fun j => (hf j).trans (h.fr j), hu, h.uq⟩
/-- A tuple that the three blocks do not hold. -/
structure Key (W : World) (b0 b1 bw : Nat) (A : Option Addr) (c : Nat) (t : Tp) : Prop where
  F : Kd.F (Kd.int .i64) W (Not3 b0 b1 bw) A t.length t
  le : t.length ≤ c
  z : t.length * 8 ≤ 140737488351232
theorem Key.sl {b0 b1 bw : Nat} {A : Option Addr} {c : Nat} {t : Tp} (h : Key W b0 b1 bw A c t) : Sl W A c t := ⟨Kd.F_now h.F, h.le⟩
theorem Key.kept {b0 b1 bw : Nat} {A : Option Addr} {c : Nat} {t : Tp} (h : Key W b0 b1 bw A c t) (k : Kept3 b0 b1 bw W W1) : Key W1 b0 b1 bw A c t := ⟨Kd.F_step h.F fun q hq hl => k.heap q hl hq.1 hq.2.1 hq.2.2, h.le, h.z⟩
theorem Key.symm {b0 b1 bw : Nat} {A : Option Addr} {c : Nat} {t : Tp} (h : Key W b0 b1 bw A c t) : Key W b1 b0 bw A c t := ⟨Kd.F_mono h.F fun _ => Not3.symm, h.le, h.z⟩
end

end Go.Proofs.Ytcmllllbmgcnlaa.Tup

namespace Go.Proofs.Ytcmllllbmgcnlaa.Tup
open Go.RowKit Go.Lib Go.Shelf Go.Proofs.Ytcmllllbmgcnlaa.F Go.Proofs.YtcmllllbmgcnlaaW.PrintWords Go.Proofs.YtcmllllbmgcnlaaW.PrintLast Go.Proofs.YtcmllllbmgcnlaaW.PrintMore
set_option linter.unusedVariables false
set_option linter.unusedSimpArgs false

/-- What a call of does leaves. -/
def DoesR (W : World) (bw i i' bs bo : Nat) (e : Ending) (w' : World) : Prop :=
  e = .returned (.bool true) ∧ (∃ X Y, Duo w' bw i i' bs bo X Y X Y) ∧ Kept3 bs bo bw W w'

set_option maxHeartbeats 4000000 in
set_option maxRecDepth 100000 in
theorem does_has (W : World) (bw i i' bs bo : Nat) {X Y : ST} (h : Duo W bw i i' bs bo X Y X Y) (K On k : Int) (At : Option Addr) (ct : Nat) (t : Tp) (hk : Key W bs bo bw At ct t) (hOn : bits BinOp.and IntKind.i64 On 1 = (i : Int)) (hK : (Int.tmod (wrap64 (Int.tmod K 8 + 8)) 8) = 1) :
    Calls Try.prog 33 #[.pointer (some ⟨bw, 0, none⟩), .agg #[.int .i64 K, .int .i64 On, .int .i64 k, .slice At t.length ct]] W (DoesR W bw i i' bs bo) := by
  obtain ⟨V, hV⟩ : ∃ V, V = W.alloc (.cells #[.int .i64 K, .int .i64 On, .int .i64 k, .slice At t.length ct] 60) := ⟨_, rfl⟩
  have hs : Since W V := by rw [hV]; exact (Since.refl W).alloc _
  have hbx : V.heap[W.heap.size]? = some (.cells #[.int .i64 K, .int .i64 On, .int .i64 k, .slice At t.length ct] 60 (0, 0)) := by rw [hV]; exact heap_alloc_new W _
  have v0 : V.cell? ⟨W.heap.size, 0, none⟩ = some (.int .i64 K) := (cell_of_heap hbx 0).trans rfl
  have v2 : V.cell? ⟨W.heap.size, 2, none⟩ = some (.int .i64 k) := (cell_of_heap hbx 2).trans rfl
  have v3 : V.cell? ⟨W.heap.size, 3, none⟩ = some (.slice At t.length ct) := (cell_of_heap hbx 3).trans rfl
  have HVV := Aside0.mk hV
  have cs := (h.since hs).cs
  have co := (h.since hs).co
  have HV := Aside0.mk (And.intro (h.since hs) (And.intro (hk.kept (Kept3.since hs)) hs))
  have HHs := Aside0.mk (fun (w2 : World) (hs : Since V w2) => show Calls Try.prog 23 #[.pointer (some ⟨bs, 0, none⟩), .slice At t.length ct] w2 (fun e w' => e = .returned (.bool (decide (t ∈ X.2))) ∧ Since w2 w') by
    obtain ⟨A, c, r, T, hS, e⟩ := (HV.out.1.since hs).S
    rw [← e]
    exact (has_calls w2 bs hS At ct t (HV.out.2.1.kept (Kept3.since hs)).sl).mono fun e w' h => ⟨h.1, ⟨h.2⟩⟩)
  have HRh := Aside0.mk (fun (w2 : World) (hs : Since V w2) => show Calls Try.prog 57 #[.pointer (some ⟨bw, 2 + 2 * i, none⟩), .slice At t.length ct] w2 (fun e w' => e = .returned (.bool (decide (t ∈ X.2))) ∧ Since w2 w') by
    obtain ⟨A, c, Ar, cr, hR⟩ := (HV.out.1.since hs).R
    exact (rhas_calls w2 bw _ hR HV.out.1.up At ct t (HV.out.2.1.kept (Kept3.since hs)).sl).mono fun e w' h => ⟨h.1, Since.ofDrawn h.2⟩)
  have HKP := Aside0.mk (show ∀ w', Since V w' → (w'.cell? ⟨W.heap.size, 2, none⟩ = some (.int .i64 k) ∧ w'.cell? ⟨W.heap.size, 3, none⟩ = some (.slice At t.length ct)) ∧ Since V w' from fun w' hs => ⟨⟨pw_cell_below hs.b v2, pw_cell_below hs.b v3⟩, hs⟩)
  obtain ⟨q, hq⟩ : ∃ q, q = decide (t ∈ X.2) := ⟨_, rfl⟩
  rw [← hq] at HHs HRh
  rcases h.ii with ⟨rfl, rfl⟩ | ⟨rfl, rfl⟩
  all_goals
    clear h hk hs hV hbx co hq
    go_enter Try.func33, Try.ntmps33
    go_wp2
    rw [← HVV.out]
    go_region
    all_goals go_wp2_with fail
    have hS1 := (Since.refl V).drew.drew
    go_region_held3 (fun w' => (w'.cell? ⟨W.heap.size, 2, none⟩ = some (.int .i64 k) ∧ w'.cell? ⟨W.heap.size, 3, none⟩ = some (.slice At t.length ct)) ∧ Since V w')
      (exact HKP.out _ (by ((try go_split_ands); first | exact Since.refl _ | assumption | exact Since.trans (by assumption) (by assumption) | exact Since.trans (Since.trans (by assumption) (by assumption)) (by assumption) | exact Since.trans (Since.trans (Since.trans (by assumption) (by assumption)) (by assumption)) (by assumption))))
      (first
        | (go_at_call 23; (refine (HHs.out _ (by ((try go_split_ands); first | exact Since.refl _ | assumption | exact Since.trans (by assumption) (by assumption) | exact Since.trans (Since.trans (by assumption) (by assumption)) (by assumption) | exact Since.trans (Since.trans (Since.trans (by assumption) (by assumption)) (by assumption)) (by assumption)))).mono ?_); rintro e w' ⟨rfl, hs5⟩)
        | (go_at_call 57; (refine (HRh.out _ (by ((try go_split_ands); first | exact Since.refl _ | assumption | exact Since.trans (by assumption) (by assumption) | exact Since.trans (Since.trans (by assumption) (by assumption)) (by assumption) | exact Since.trans (Since.trans (Since.trans (by assumption) (by assumption)) (by assumption)) (by assumption)))).mono ?_); rintro e w' ⟨rfl, hs6⟩))
    have hs9 : Since V w' := by go_split_ands; assumption
    have HS9 := Aside0.mk hs9
    clear hs9
    go_wp2
    go_ret
    exact ⟨by simp, ⟨X, Y, HV.out.1.since HS9.out⟩, Kept3.since (HV.out.2.2.trans HS9.out)⟩

theorem rangeL_sub {o key : Tp} {k : Int} {L : List Tp} {t : Tp} (h : t ∈ rangeL o k key L) : t ∈ L := by
  unfold rangeL at h
  split at h
  · exact (List.mem_filter.1 ((List.takeWhile_prefix _).subset h)).1
  · simp at h
theorem fromL_sub {o key : Tp} {L : List Tp} {t : Tp} (h : t ∈ fromL o key L) : t ∈ L := by
  unfold fromL at h
  split at h
  · exact (List.mem_filter.1 h).1
  · simp at h

set_option maxHeartbeats 4000000 in
set_option maxRecDepth 100000 in
theorem does_range (W : World) (bw i i' bs bo : Nat) {X Y : ST} (h : Duo W bw i i' bs bo X Y X Y) (K On k : Int) (At : Option Addr) (ct : Nat) (t : Tp) (hk : Key W bs bo bw At ct t) (hOn : bits BinOp.and IntKind.i64 On 1 = (i : Int)) (hK : (Int.tmod (wrap64 (Int.tmod K 8 + 8)) 8) = 2) :
    Calls Try.prog 33 #[.pointer (some ⟨bw, 0, none⟩), .agg #[.int .i64 K, .int .i64 On, .int .i64 k, .slice At t.length ct]] W (DoesR W bw i i' bs bo) := by
  obtain ⟨V, hV⟩ : ∃ V, V = W.alloc (.cells #[.int .i64 K, .int .i64 On, .int .i64 k, .slice At t.length ct] 60) := ⟨_, rfl⟩
  have hs : Since W V := by rw [hV]; exact (Since.refl W).alloc _
  have hbx : V.heap[W.heap.size]? = some (.cells #[.int .i64 K, .int .i64 On, .int .i64 k, .slice At t.length ct] 60 (0, 0)) := by rw [hV]; exact heap_alloc_new W _
  have v0 : V.cell? ⟨W.heap.size, 0, none⟩ = some (.int .i64 K) := (cell_of_heap hbx 0).trans rfl
  have v2 : V.cell? ⟨W.heap.size, 2, none⟩ = some (.int .i64 k) := (cell_of_heap hbx 2).trans rfl
  have v3 : V.cell? ⟨W.heap.size, 3, none⟩ = some (.slice At t.length ct) := (cell_of_heap hbx 3).trans rfl
  have HVV := Aside0.mk hV
  have cs := (h.since hs).cs
  have co := (h.since hs).co
  have HV := Aside0.mk (And.intro (h.since hs) (And.intro (hk.kept (Kept3.since hs)) hs))
  obtain ⟨m, hm⟩ : ∃ m, m = (rangeL X.1 k t X.2).length := ⟨_, rfl⟩
  have HM := Aside0.mk hm
  have HFit := Aside0.mk (show ∀ t' ∈ rangeL X.1 k t X.2, t'.length ≤ 8 from fun t' ht' => by
    obtain ⟨A, c, Ar, cr, hR⟩ := h.R
    have := (hR.fit t' (rangeL_sub ht')).1
    have := hR.rto.1
    omega)
  have HFl : Aside0 (m ≤ 1000000) := ⟨by
    obtain ⟨A, c, Ar, cr, hR⟩ := h.R
    have := hR.le
    have := rangeL_len X.1 k t X.2
    omega⟩
  have HHs := Aside0.mk (fun (w2 : World) (hs : Since V w2) => show Calls Try.prog 29 #[.pointer (some ⟨bs, 0, none⟩), .int .i64 k, .slice At t.length ct] w2 (fun e w' => ∃ v, e = .returned v ∧ Since w2 w' ∧ Aside0 (∀ w3, Since w' w3 → Calls Try.prog 21 #[v] w3 (fun e w4 => ∃ A c, e = .returned (.slice A m c) ∧ Since w3 w4 ∧ Aside0 (m ≤ c ∧ ∀ w5, Since w4 w5 → Kd.C KT w5 A m (rangeL X.1 k t X.2)))) ) by
    obtain ⟨A, c, r, T, hS, e⟩ := (HV.out.1.since hs).S
    refine (rangecZ_calls w2 (some ⟨bs, 0, none⟩) k At ct t (HV.out.2.1.kept (Kept3.since hs)).sl HV.out.2.1.z).mono ?_
    rintro e1 w' ⟨Bs, Bk, Bi, Ak, ck, rfl, h1, h2, h4, h5, hF, hb⟩
    refine ⟨_, rfl, ⟨hb⟩, ⟨fun w3 h3 => ?_⟩⟩
    rw [← e] at HM ⊢
    refine (listR_calls w3 Bs Bk Bi bs (hS.since (Since.trans ⟨hb⟩ h3)) (pw_cell_below h3.b h1) Ak ck t (pw_cell_below h3.b h4) h5 (Kd.F_below hF h3.b) k (pw_cell_below h3.b h2)).mono ?_
    rintro e4 w4 ⟨A4, c4, rfl, hc4, hF4, hb4⟩
    rw [← HM.out] at hc4 hF4 ⊢
    exact ⟨A4, c4, rfl, ⟨hb4⟩, ⟨hc4, fun w5 h5 => Kd.C_below (Kd.F_now hF4) h5.b⟩⟩)
  have HRh := Aside0.mk (fun (w2 : World) (hs : Since V w2) => show Calls Try.prog 66 #[.pointer (some ⟨bw, 2 + 2 * i, none⟩), .int .i64 k, .slice At t.length ct] w2 (fun e w' => ∃ A c, e = .returned (.slice A m c) ∧ Since w2 w' ∧ Aside0 (m ≤ c ∧ ∀ w5, Since w' w5 → Kd.C KT w5 A m (rangeL X.1 k t X.2))) by
    obtain ⟨A, c, Ar, cr, hR⟩ := (HV.out.1.since hs).R
    have h := (by rw [range_ref k hR.rto hR.fit HV.out.1.up]; exact rrange_calls w2 bw _ hR k At ct t (HV.out.2.1.kept (Kept3.since hs)).sl : Calls Try.prog 66 _ w2 (ListC w2 (rangeL X.1 k t X.2)))
    refine h.mono ?_
    rintro e w' ⟨A4, c4, rfl, hc4, hF4, hb4⟩
    rw [← HM.out] at hc4 hF4 ⊢
    exact ⟨A4, c4, rfl, ⟨hb4⟩, ⟨hc4, fun w5 h5 => Kd.C_below hF4 h5.b⟩⟩)
  have HSM := Aside0.mk (fun (w2 : World) (A c A' c') (h1 : m ≤ c ∧ Kd.C KT w2 A m (rangeL X.1 k t X.2)) (h2 : m ≤ c' ∧ Kd.C KT w2 A' m (rangeL X.1 k t X.2)) => show Calls Try.prog 20 #[.slice A m c, .slice A' m c'] w2 (fun e w' => e = .returned (.bool true) ∧ Since w2 w') by
    have h := same2_calls A c (rangeL X.1 k t X.2) A' c' (rangeL X.1 k t X.2) w2 (by rw [← HM.out]; exact h1.2) (by rw [← HM.out]; exact h1.1) (by rw [← HM.out]; exact h2.2) (by rw [← HM.out]; exact h2.1) 8 HFit.out (by omega) (by rw [← HM.out]; exact HFl.out)
    rw [decide_eq_true rfl, ← HM.out] at h
    exact h.mono fun e w' h => ⟨h.1, Since.ofDrawn h.2⟩)
  have HKP := Aside0.mk (show ∀ w', Since V w' → (w'.cell? ⟨W.heap.size, 2, none⟩ = some (.int .i64 k) ∧ w'.cell? ⟨W.heap.size, 3, none⟩ = some (.slice At t.length ct)) ∧ Since V w' from fun w' hs => ⟨⟨pw_cell_below hs.b v2, pw_cell_below hs.b v3⟩, hs⟩)
  rcases h.ii with ⟨rfl, rfl⟩ | ⟨rfl, rfl⟩
  all_goals
    clear h hk hs hV hbx co hm
    go_enter Try.func33, Try.ntmps33
    go_wp2
    rw [← HVV.out]
    go_region
    all_goals go_wp2_with fail
    have hS1 := (Since.refl V).drew.drew
    go_region_held3 (fun w' => (w'.cell? ⟨W.heap.size, 2, none⟩ = some (.int .i64 k) ∧ w'.cell? ⟨W.heap.size, 3, none⟩ = some (.slice At t.length ct)) ∧ Since V w')
      (exact HKP.out _ (by ((try go_split_ands); first | exact Since.refl _ | assumption | exact Since.trans (by assumption) (by assumption) | exact Since.trans (Since.trans (by assumption) (by assumption)) (by assumption) | exact Since.trans (Since.trans (Since.trans (by assumption) (by assumption)) (by assumption)) (by assumption))))
      (first
        | (go_at_call 29; (refine (HHs.out _ (by ((try go_split_ands); first | exact Since.refl _ | assumption | exact Since.trans (by assumption) (by assumption) | exact Since.trans (Since.trans (by assumption) (by assumption)) (by assumption) | exact Since.trans (Since.trans (Since.trans (by assumption) (by assumption)) (by assumption)) (by assumption)))).mono ?_); rintro e w' ⟨v5, rfl, hs5, HL5⟩)
        | (go_at_call 21; (refine (HL5.out _ (by ((try go_split_ands); first | exact Since.refl _ | assumption | exact Since.trans (by assumption) (by assumption) | exact Since.trans (Since.trans (by assumption) (by assumption)) (by assumption) | exact Since.trans (Since.trans (Since.trans (by assumption) (by assumption)) (by assumption)) (by assumption)))).mono ?_); rintro e w' ⟨A6, c6, rfl, hs6, HC6⟩)
        | (go_at_call 66; (refine (HRh.out _ (by ((try go_split_ands); first | exact Since.refl _ | assumption | exact Since.trans (by assumption) (by assumption) | exact Since.trans (Since.trans (by assumption) (by assumption)) (by assumption) | exact Since.trans (Since.trans (Since.trans (by assumption) (by assumption)) (by assumption)) (by assumption)))).mono ?_); rintro e w' ⟨A7, c7, rfl, hs7, HC7⟩)
        | (go_at_call 20; (refine (HSM.out _ _ _ _ _ ⟨HC6.out.1, HC6.out.2 _ (by ((try go_split_ands); first | exact Since.refl _ | assumption | exact Since.trans (by assumption) (by assumption) | exact Since.trans (Since.trans (by assumption) (by assumption)) (by assumption) | exact Since.trans (Since.trans (Since.trans (by assumption) (by assumption)) (by assumption)) (by assumption)))⟩ ⟨HC7.out.1, HC7.out.2 _ (by ((try go_split_ands); first | exact Since.refl _ | assumption | exact Since.trans (by assumption) (by assumption) | exact Since.trans (Since.trans (by assumption) (by assumption)) (by assumption) | exact Since.trans (Since.trans (Since.trans (by assumption) (by assumption)) (by assumption)) (by assumption)))⟩).mono ?_); rintro e w' ⟨rfl, hs8⟩))
    have hs9 : Since V w' := by go_split_ands; assumption
    have HS9 := Aside0.mk hs9
    clear hs9
    go_wp2
    go_ret
    exact ⟨by simp, ⟨X, Y, HV.out.1.since HS9.out⟩, Kept3.since (HV.out.2.2.trans HS9.out)⟩

set_option maxHeartbeats 4000000 in
set_option maxRecDepth 100000 in
theorem does_from (W : World) (bw i i' bs bo : Nat) {X Y : ST} (h : Duo W bw i i' bs bo X Y X Y) (K On k : Int) (At : Option Addr) (ct : Nat) (t : Tp) (hk : Key W bs bo bw At ct t) (hOn : bits BinOp.and IntKind.i64 On 1 = (i : Int)) (hK : (Int.tmod (wrap64 (Int.tmod K 8 + 8)) 8) = 3) :
    Calls Try.prog 33 #[.pointer (some ⟨bw, 0, none⟩), .agg #[.int .i64 K, .int .i64 On, .int .i64 k, .slice At t.length ct]] W (DoesR W bw i i' bs bo) := by
  obtain ⟨V, hV⟩ : ∃ V, V = W.alloc (.cells #[.int .i64 K, .int .i64 On, .int .i64 k, .slice At t.length ct] 60) := ⟨_, rfl⟩
  have hs : Since W V := by rw [hV]; exact (Since.refl W).alloc _
  have hbx : V.heap[W.heap.size]? = some (.cells #[.int .i64 K, .int .i64 On, .int .i64 k, .slice At t.length ct] 60 (0, 0)) := by rw [hV]; exact heap_alloc_new W _
  have v0 : V.cell? ⟨W.heap.size, 0, none⟩ = some (.int .i64 K) := (cell_of_heap hbx 0).trans rfl
  have v2 : V.cell? ⟨W.heap.size, 2, none⟩ = some (.int .i64 k) := (cell_of_heap hbx 2).trans rfl
  have v3 : V.cell? ⟨W.heap.size, 3, none⟩ = some (.slice At t.length ct) := (cell_of_heap hbx 3).trans rfl
  have HVV := Aside0.mk hV
  have cs := (h.since hs).cs
  have co := (h.since hs).co
  have HV := Aside0.mk (And.intro (h.since hs) (And.intro (hk.kept (Kept3.since hs)) hs))
  obtain ⟨m, hm⟩ : ∃ m, m = (fromL X.1 t X.2).length := ⟨_, rfl⟩
  have HM := Aside0.mk hm
  have HFit := Aside0.mk (show ∀ t' ∈ fromL X.1 t X.2, t'.length ≤ 8 from fun t' ht' => by
    obtain ⟨A, c, Ar, cr, hR⟩ := h.R
    have := (hR.fit t' (fromL_sub ht')).1
    have := hR.rto.1
    omega)
  have HFl : Aside0 (m ≤ 1000000) := ⟨by
    obtain ⟨A, c, Ar, cr, hR⟩ := h.R
    have := hR.le
    have := fromL_len X.1 t X.2
    omega⟩
  have HHs := Aside0.mk (fun (w2 : World) (hs : Since V w2) => show Calls Try.prog 30 #[.pointer (some ⟨bs, 0, none⟩), .slice At t.length ct] w2 (fun e w' => ∃ v, e = .returned v ∧ Since w2 w' ∧ Aside0 (∀ w3, Since w' w3 → Calls Try.prog 21 #[v] w3 (fun e w4 => ∃ A c, e = .returned (.slice A m c) ∧ Since w3 w4 ∧ Aside0 (m ≤ c ∧ ∀ w5, Since w4 w5 → Kd.C KT w5 A m (fromL X.1 t X.2)))) ) by
    obtain ⟨A, c, r, T, hS, e⟩ := (HV.out.1.since hs).S
    refine (fromcZ_calls w2 (some ⟨bs, 0, none⟩) At ct t (HV.out.2.1.kept (Kept3.since hs)).sl HV.out.2.1.z).mono ?_
    rintro e1 w' ⟨Bs, Bk, Ak, ck, rfl, h1, h4, h5, hF, hb⟩
    refine ⟨_, rfl, ⟨hb⟩, ⟨fun w3 h3 => ?_⟩⟩
    rw [← e] at HM ⊢
    refine (listF_calls w3 Bs Bk bs (hS.since (Since.trans ⟨hb⟩ h3)) (pw_cell_below h3.b h1) Ak ck t (pw_cell_below h3.b h4) h5 (Kd.F_below hF h3.b)).mono ?_
    rintro e4 w4 ⟨A4, c4, rfl, hc4, hF4, hb4⟩
    rw [← HM.out] at hc4 hF4 ⊢
    exact ⟨A4, c4, rfl, ⟨hb4⟩, ⟨hc4, fun w5 h5 => Kd.C_below (Kd.F_now hF4) h5.b⟩⟩)
  have HRh := Aside0.mk (fun (w2 : World) (hs : Since V w2) => show Calls Try.prog 67 #[.pointer (some ⟨bw, 2 + 2 * i, none⟩), .slice At t.length ct] w2 (fun e w' => ∃ A c, e = .returned (.slice A m c) ∧ Since w2 w' ∧ Aside0 (m ≤ c ∧ ∀ w5, Since w' w5 → Kd.C KT w5 A m (fromL X.1 t X.2))) by
    obtain ⟨A, c, Ar, cr, hR⟩ := (HV.out.1.since hs).R
    have h := rfrom_calls w2 bw _ hR HV.out.1.up At ct t (HV.out.2.1.kept (Kept3.since hs)).sl
    refine h.mono ?_
    rintro e w' ⟨A4, c4, rfl, hc4, hF4, hb4⟩
    rw [← HM.out] at hc4 hF4 ⊢
    exact ⟨A4, c4, rfl, ⟨hb4⟩, ⟨hc4, fun w5 h5 => Kd.C_below hF4 h5.b⟩⟩)
  have HSM := Aside0.mk (fun (w2 : World) (A c A' c') (h1 : m ≤ c ∧ Kd.C KT w2 A m (fromL X.1 t X.2)) (h2 : m ≤ c' ∧ Kd.C KT w2 A' m (fromL X.1 t X.2)) => show Calls Try.prog 20 #[.slice A m c, .slice A' m c'] w2 (fun e w' => e = .returned (.bool true) ∧ Since w2 w') by
    have h := same2_calls A c (fromL X.1 t X.2) A' c' (fromL X.1 t X.2) w2 (by rw [← HM.out]; exact h1.2) (by rw [← HM.out]; exact h1.1) (by rw [← HM.out]; exact h2.2) (by rw [← HM.out]; exact h2.1) 8 HFit.out (by omega) (by rw [← HM.out]; exact HFl.out)
    rw [decide_eq_true rfl, ← HM.out] at h
    exact h.mono fun e w' h => ⟨h.1, Since.ofDrawn h.2⟩)
  have HKP := Aside0.mk (show ∀ w', Since V w' → (w'.cell? ⟨W.heap.size, 2, none⟩ = some (.int .i64 k) ∧ w'.cell? ⟨W.heap.size, 3, none⟩ = some (.slice At t.length ct)) ∧ Since V w' from fun w' hs => ⟨⟨pw_cell_below hs.b v2, pw_cell_below hs.b v3⟩, hs⟩)
  rcases h.ii with ⟨rfl, rfl⟩ | ⟨rfl, rfl⟩
  all_goals
    clear h hk hs hV hbx co hm
    go_enter Try.func33, Try.ntmps33
    go_wp2
    rw [← HVV.out]
    go_region
    all_goals go_wp2_with fail
    have hS1 := (Since.refl V).drew.drew
    go_region_held3 (fun w' => (w'.cell? ⟨W.heap.size, 2, none⟩ = some (.int .i64 k) ∧ w'.cell? ⟨W.heap.size, 3, none⟩ = some (.slice At t.length ct)) ∧ Since V w')
      (exact HKP.out _ (by ((try go_split_ands); first | exact Since.refl _ | assumption | exact Since.trans (by assumption) (by assumption) | exact Since.trans (Since.trans (by assumption) (by assumption)) (by assumption) | exact Since.trans (Since.trans (Since.trans (by assumption) (by assumption)) (by assumption)) (by assumption))))
      (first
        | (go_at_call 30; (refine (HHs.out _ (by ((try go_split_ands); first | exact Since.refl _ | assumption | exact Since.trans (by assumption) (by assumption) | exact Since.trans (Since.trans (by assumption) (by assumption)) (by assumption) | exact Since.trans (Since.trans (Since.trans (by assumption) (by assumption)) (by assumption)) (by assumption)))).mono ?_); rintro e w' ⟨v5, rfl, hs5, HL5⟩)
        | (go_at_call 21; (refine (HL5.out _ (by ((try go_split_ands); first | exact Since.refl _ | assumption | exact Since.trans (by assumption) (by assumption) | exact Since.trans (Since.trans (by assumption) (by assumption)) (by assumption) | exact Since.trans (Since.trans (Since.trans (by assumption) (by assumption)) (by assumption)) (by assumption)))).mono ?_); rintro e w' ⟨A6, c6, rfl, hs6, HC6⟩)
        | (go_at_call 67; (refine (HRh.out _ (by ((try go_split_ands); first | exact Since.refl _ | assumption | exact Since.trans (by assumption) (by assumption) | exact Since.trans (Since.trans (by assumption) (by assumption)) (by assumption) | exact Since.trans (Since.trans (Since.trans (by assumption) (by assumption)) (by assumption)) (by assumption)))).mono ?_); rintro e w' ⟨A7, c7, rfl, hs7, HC7⟩)
        | (go_at_call 20; (refine (HSM.out _ _ _ _ _ ⟨HC6.out.1, HC6.out.2 _ (by ((try go_split_ands); first | exact Since.refl _ | assumption | exact Since.trans (by assumption) (by assumption) | exact Since.trans (Since.trans (by assumption) (by assumption)) (by assumption) | exact Since.trans (Since.trans (Since.trans (by assumption) (by assumption)) (by assumption)) (by assumption)))⟩ ⟨HC7.out.1, HC7.out.2 _ (by ((try go_split_ands); first | exact Since.refl _ | assumption | exact Since.trans (by assumption) (by assumption) | exact Since.trans (Since.trans (by assumption) (by assumption)) (by assumption) | exact Since.trans (Since.trans (Since.trans (by assumption) (by assumption)) (by assumption)) (by assumption)))⟩).mono ?_); rintro e w' ⟨rfl, hs8⟩))
    have hs9 : Since V w' := by go_split_ands; assumption
    have HS9 := Aside0.mk hs9
    clear hs9
    go_wp2
    go_ret
    exact ⟨by simp, ⟨X, Y, HV.out.1.since HS9.out⟩, Kept3.since (HV.out.2.2.trans HS9.out)⟩

end Go.Proofs.Ytcmllllbmgcnlaa.Tup

namespace Go.Proofs.Ytcmllllbmgcnlaa.Tup
open Go.RowKit Go.Lib Go.Shelf Go.Proofs.Ytcmllllbmgcnlaa.F Go.Proofs.YtcmllllbmgcnlaaW.PrintWords Go.Proofs.YtcmllllbmgcnlaaW.PrintLast Go.Proofs.YtcmllllbmgcnlaaW.PrintMore
set_option linter.unusedVariables false
set_option linter.unusedSimpArgs false

section
variable {W W1 : World} {bw i i' bs bo : Nat} {X Y P Q : ST}
theorem Duo.lens (h : Duo W bw i i' bs bo X Y P Q) : bs < W.heap.size ∧ bo < W.heap.size ∧ bw < W.heap.size := ⟨h.ls, h.lo, h.lw⟩
theorem Duo.not (h : Duo W bw i i' bs bo X Y P Q) : ¬ Not3 bs bo bw bs ∧ ¬ Not3 bs bo bw bo ∧ ¬ Not3 bs bo bw bw := ⟨fun h => h.1 rfl, fun h => h.2.1 rfl, fun h => h.2.2 rfl⟩
/-- The first set's Insert. -/
theorem Duo.ins (h : Duo W bw i i' bs bo X Y P Q) (At : Option Addr) (ct : Nat) (t : Tp) (st : Sl W At ct t) :
    Calls Try.prog 18 #[.pointer (some ⟨bs, 0, none⟩), .slice At t.length ct] W fun e w' => e = .returned (.tuple #[.bool (insAns X.1 X.2 t).1, .int .i64 ((insAns X.1 X.2 t).2 : Int)]) ∧ Duo w' bw i i' bs bo (X.1, insTo X.1 X.2 t) Y P Q ∧ Kept3 bs bo bw W w' := by
  obtain ⟨A, c, r, T, hS, e⟩ := h.S
  have hz := h.lens
  refine (insert_calls W bs hS At ct t st (by have := hS.rto.1; omega)).mono ?_
  rintro e1 w' ⟨rt', T', e2, hS2, hio, hk⟩
  rw [e] at e2 hio
  exact ⟨e2, h.set ⟨A, c, rt', T', hS2.mono (fun k hk => not3_plus hz hk) h.not.1, hio⟩ hk, Kept3.one hk (.inl rfl)⟩
/-- The document's. -/
theorem Duo.rins (h : Duo W bw i i' bs bo X Y P Q) (At : Option Addr) (ct : Nat) (t : Tp) (st : Sl W At ct t) :
    Calls Try.prog 27 #[.pointer (some ⟨bw, 2 + 2 * i, none⟩), .slice At t.length ct] W fun e w' => e = .returned (.tuple #[.bool (insAns P.1 P.2 t).1, .int .i64 ((insAns P.1 P.2 t).2 : Int)]) ∧ Duo w' bw i i' bs bo X Y (P.1, insTo P.1 P.2 t) Q ∧ Kept3 bs bo bw W w' := by
  obtain ⟨A, c, Ar, cr, hR⟩ := h.R
  have hz := h.lens
  refine (rins_calls W bw _ hR h.up At ct t st).mono ?_
  rintro e1 w' hr
  obtain ⟨Al, cl, h2, h3⟩ := rins_after hR h.not.2.2 hr h.up
  exact ⟨hr.1, h.ref ⟨A, c, Al, cl, h2.mono fun k hk => not3_plus hz hk⟩ (insTo_good (t := t) hR.rto ⟨hR.fit, h.up⟩).up h3, Kept3.one h3.k (.inr (.inr rfl))⟩
theorem Duo.clear (h : Duo W bw i i' bs bo X Y P Q) :
    Calls Try.prog 36 #[.pointer (some ⟨bs, 0, none⟩)] W fun e w' => e = .returned (.tuple #[]) ∧ Duo w' bw i i' bs bo (X.1, []) Y P Q ∧ Kept3 bs bo bw W w' := by
  obtain ⟨A, c, r, T, hS, e⟩ := h.S
  have hz := h.lens
  refine (clear_calls W bs hS).mono ?_
  rintro e1 w' ⟨e2, ⟨rt', hS2⟩, hk⟩
  exact ⟨e2, h.set ⟨A, c, rt', _, hS2.mono (fun k hk => not3_plus hz hk) h.not.1, BT.io_mk _ _ ▸ rfl⟩ hk, Kept3.one hk (.inl rfl)⟩
/-- The document's tuples away. -/
theorem Duo.rclear (h : Duo W bw i i' bs bo X Y P Q) : Duo (W.setCell ⟨bw, 2 + 2 * i + 1, none⟩ (.slice none 0 0)) bw i i' bs bo X Y (P.1, []) Q ∧ Kept3 bs bo bw W (W.setCell ⟨bw, 2 + 2 * i + 1, none⟩ (.slice none 0 0)) := by
  obtain ⟨A, c, Ar, cr, hR⟩ := h.R
  have hk : RAfter bw (2 + 2 * i) W (W.setCell ⟨bw, 2 + 2 * i + 1, none⟩ (.slice none 0 0)) := ⟨Kept1.set _ _ _ _, fun q v hq hne => by rw [World.cell?_setCell_other _ _ _ _ (fun e => hne e.symm)]; exact hq, fun q hq => by rw [World.frozen?_setCell]⟩
  refine ⟨h.ref ⟨A, c, none, 0, ?_⟩ (by simp [Up]) hk, Kept3.one hk.k (.inr (.inr rfl))⟩
  have hst : ∀ k, Not3 bs bo bw k → k < W.heap.size → (W.setCell ⟨bw, 2 + 2 * i + 1, none⟩ (.slice none 0 0)).heap[k]? = W.heap[k]? := fun k hk _ => Below.heap_setCell _ _ _ _ (fun e : k = bw => hk.2.2 e)
  exact ⟨hk.c _ _ hR.c0 (fun e => by injection e; omega), World.cell?_setCell_same _ _ _ hR.c1, hR.so, Nat.le_refl _, Kd.F_step hR.F hst, Kd.F_nil KT _ _, hR.rto, by simp, by simp, by rw [World.frozen?_setCell]; exact hR.fz⟩
end

set_option maxHeartbeats 4000000 in
set_option maxRecDepth 100000 in
theorem does_ins (W : World) (bw i i' bs bo : Nat) {X Y : ST} (kk : Int) (h : Duo W bw i i' bs bo X Y X Y) (K On k : Int) (At : Option Addr) (ct : Nat) (t : Tp) (hk : Key W bs bo bw At ct t) (hOn : bits BinOp.and IntKind.i64 On 1 = (i : Int)) (hK : (Int.tmod (wrap64 (Int.tmod K 8 + 8)) 8) = kk) (hkk : kk = 0 ∨ kk = 7) :
    Calls Try.prog 33 #[.pointer (some ⟨bw, 0, none⟩), .agg #[.int .i64 K, .int .i64 On, .int .i64 k, .slice At t.length ct]] W (DoesR W bw i i' bs bo) := by
  obtain ⟨V, hV⟩ : ∃ V, V = W.alloc (.cells #[.int .i64 K, .int .i64 On, .int .i64 k, .slice At t.length ct] 60) := ⟨_, rfl⟩
  have hs : Since W V := by rw [hV]; exact (Since.refl W).alloc _
  have hbx : V.heap[W.heap.size]? = some (.cells #[.int .i64 K, .int .i64 On, .int .i64 k, .slice At t.length ct] 60 (0, 0)) := by rw [hV]; exact heap_alloc_new W _
  have v0 : V.cell? ⟨W.heap.size, 0, none⟩ = some (.int .i64 K) := (cell_of_heap hbx 0).trans rfl
  have v2 : V.cell? ⟨W.heap.size, 2, none⟩ = some (.int .i64 k) := (cell_of_heap hbx 2).trans rfl
  have v3 : V.cell? ⟨W.heap.size, 3, none⟩ = some (.slice At t.length ct) := (cell_of_heap hbx 3).trans rfl
  have HVV := Aside0.mk hV
  have cs := (h.since hs).cs
  have co := (h.since hs).co
  have HV := Aside0.mk (And.intro (h.since hs) (And.intro (hk.kept (Kept3.since hs)) hs))
  have HD0 := Aside0.mk (HV.out.1.since (Since.refl V).drew)
  obtain ⟨q, hq⟩ : ∃ q, q = (insAns X.1 X.2 t).1 := ⟨_, rfl⟩
  obtain ⟨qe, hqe⟩ : ∃ q, q = (insAns X.1 X.2 t).2 := ⟨_, rfl⟩
  have hI := Aside0.mk (HD0.out.ins At ct t (HV.out.2.1.kept (Kept3.since (Since.refl V).drew)).sl)
  have hJ := Aside0.mk (fun (w2 : World) (hd : Duo w2 bw i i' bs bo (X.1, insTo X.1 X.2 t) Y X Y) (hk : Kept3 bs bo bw V w2) => hd.rins At ct t (HV.out.2.1.kept hk).sl)
  have HKP := Aside0.mk (show ∀ w', Kept3 bs bo bw V w' → w'.cell? ⟨W.heap.size, 3, none⟩ = some (.slice At t.length ct) from fun w' hk => by
    have hz := h.lens
    have := hk.heap W.heap.size (Array.getElem?_eq_some_iff.1 hbx).1 (by omega) (by omega) (by omega)
    exact (cell_of_heap (this.trans hbx) 3).trans rfl)
  rw [← hq, ← hqe] at hI hJ
  have v3 := HKP.out _ (Kept3.since (Since.refl V).drew)
  rcases hkk with rfl | rfl <;> rcases h.ii with ⟨rfl, rfl⟩ | ⟨rfl, rfl⟩
  all_goals
    clear h hk hs hV hbx hq hqe
    go_enter Try.func33, Try.ntmps33
    go_wp2
    rw [← HVV.out]
    go_region
    all_goals go_wp2_with (first
      | (go_at_call 18; (refine hI.out.mono ?_); rintro e w5 ⟨rfl, hd5, hk5⟩; have D5 := Aside0.mk hd5; have K5 := Aside0.mk ((Kept3.since (Since.refl V).drew).trans hk5); have v5 := HKP.out _ K5.out; have J5 := hJ.out _ D5.out K5.out; clear hd5 hk5 v3)
      | (go_at_call 27; (refine J5.mono ?_); clear J5; rintro e w6 ⟨rfl, hd6, hk6⟩; have D6 := Aside0.mk hd6; have K6 := Aside0.mk (K5.out.trans hk6); clear hd6 hk6))
    go_ret
    exact ⟨by simp, ⟨_, _, D6.out⟩, (Kept3.since HV.out.2.2).trans K6.out⟩

set_option maxHeartbeats 4000000 in
set_option maxRecDepth 100000 in
theorem does_clear (W : World) (bw i i' bs bo : Nat) {X Y : ST} (h : Duo W bw i i' bs bo X Y X Y) (K On k : Int) (At : Option Addr) (ct : Nat) (t : Tp) (hk : Key W bs bo bw At ct t) (hOn : bits BinOp.and IntKind.i64 On 1 = (i : Int)) (hK : (Int.tmod (wrap64 (Int.tmod K 8 + 8)) 8) = 6) :
    Calls Try.prog 33 #[.pointer (some ⟨bw, 0, none⟩), .agg #[.int .i64 K, .int .i64 On, .int .i64 k, .slice At t.length ct]] W (DoesR W bw i i' bs bo) := by
  obtain ⟨V, hV⟩ : ∃ V, V = W.alloc (.cells #[.int .i64 K, .int .i64 On, .int .i64 k, .slice At t.length ct] 60) := ⟨_, rfl⟩
  have hs : Since W V := by rw [hV]; exact (Since.refl W).alloc _
  have hbx : V.heap[W.heap.size]? = some (.cells #[.int .i64 K, .int .i64 On, .int .i64 k, .slice At t.length ct] 60 (0, 0)) := by rw [hV]; exact heap_alloc_new W _
  have v0 : V.cell? ⟨W.heap.size, 0, none⟩ = some (.int .i64 K) := (cell_of_heap hbx 0).trans rfl
  have v2 : V.cell? ⟨W.heap.size, 2, none⟩ = some (.int .i64 k) := (cell_of_heap hbx 2).trans rfl
  have v3 : V.cell? ⟨W.heap.size, 3, none⟩ = some (.slice At t.length ct) := (cell_of_heap hbx 3).trans rfl
  have HVV := Aside0.mk hV
  have cs := (h.since hs).cs
  have co := (h.since hs).co
  have HV := Aside0.mk (And.intro (h.since hs) (And.intro (hk.kept (Kept3.since hs)) hs))
  have HD0 := Aside0.mk (HV.out.1.since (Since.refl V).drew)
  have hI := Aside0.mk (HD0.out.clear)
  rcases h.ii with ⟨rfl, rfl⟩ | ⟨rfl, rfl⟩
  all_goals
    clear h hk hs hV hbx
    go_enter Try.func33, Try.ntmps33
    go_wp2
    rw [← HVV.out]
    go_region
    all_goals go_wp2_with (first
      | (go_at_call 36; (refine hI.out.mono ?_); rintro e w5 ⟨rfl, hd5, hk5⟩; have D5 := Aside0.mk hd5; have K5 := Aside0.mk ((Kept3.since (Since.refl V).drew).trans hk5); obtain ⟨A5, c5, Ar5, cr5, hR5⟩ := hd5.R; have c5 := hR5.c1; have f5 := hR5.fz; clear hR5 hd5 hk5))
    go_ret
    exact ⟨by simp, ⟨_, _, D5.out.rclear.1⟩, (Kept3.since HV.out.2.2).trans (K5.out.trans D5.out.rclear.2)⟩

end Go.Proofs.Ytcmllllbmgcnlaa.Tup

namespace Go.Proofs.Ytcmllllbmgcnlaa.Tup
open Go.RowKit Go.Lib Go.Shelf Go.Proofs.Ytcmllllbmgcnlaa.F Go.Proofs.YtcmllllbmgcnlaaW.PrintWords Go.Proofs.YtcmllllbmgcnlaaW.PrintLast Go.Proofs.YtcmllllbmgcnlaaW.PrintMore
set_option linter.unusedVariables false
set_option linter.unusedSimpArgs false

theorem mergeS_up {o : Tp} (hr : Rt o) : ∀ (M L : List Tp) (n : Nat), (∀ a ∈ L, Fit o a) → Up o L → Up o (mergeS o L n M).2.2
  | [], L, n, hf, hu => hu
  | t :: M, L, n, hf, hu => by
    by_cases h : (insAns o L t).2 = 0
    · rw [mergeS_go h]
      have hg := insTo_good (t := t) hr ⟨hf, hu⟩
      exact mergeS_up hr M _ _ hg.fit hg.up
    · rw [mergeS_stop h]; exact hu
theorem SetAt.move {ok : Nat → Prop} {W W1 : World} {b b2 : Nat} {A : Option Addr} {c : Nat} {o : Tp} {rt : Nat} {T : BT} (h : SetAt ok W b A c o rt T) (hm : ∀ k, ok k → k < W.heap.size → W1.heap[k]? = W.heap[k]?) (hb : W1.heap[b2]? = W.heap[b]?) (hn : ¬ ok b2) : SetAt ok W1 b2 A c o rt T :=
  ⟨hb.trans h.hp, h.so, Kd.F_step h.F hm, h.nd.step hm, h.wf, h.rto, h.fit, h.up, h.le, hn⟩
theorem four (W : World) (b : Nat) {y2 y3 y4 y5 : Value} (h2 : W.cell? ⟨b, 2, none⟩ = some y2) (h3 : W.cell? ⟨b, 3, none⟩ = some y3) (h4 : W.cell? ⟨b, 4, none⟩ = some y4) (h5 : W.cell? ⟨b, 5, none⟩ = some y5) (x2 x3 x4 x5 : Value) :
    let V := (((W.setCell ⟨b, 2, none⟩ x2).setCell ⟨b, 3, none⟩ x3).setCell ⟨b, 4, none⟩ x4).setCell ⟨b, 5, none⟩ x5
    V.cell? ⟨b, 2, none⟩ = some x2 ∧ V.cell? ⟨b, 3, none⟩ = some x3 ∧ V.cell? ⟨b, 4, none⟩ = some x4 ∧ V.cell? ⟨b, 5, none⟩ = some x5 ∧ V.cell? ⟨b, 0, none⟩ = W.cell? ⟨b, 0, none⟩ ∧ V.cell? ⟨b, 1, none⟩ = W.cell? ⟨b, 1, none⟩ ∧ Kept1 b W V ∧ ∀ q, V.frozen? q = W.frozen? q := by
  intro V
  have ho : ∀ (w : World) (i j : Nat) (v : Value), i ≠ j → (w.setCell ⟨b, i, none⟩ v).cell? ⟨b, j, none⟩ = w.cell? ⟨b, j, none⟩ := fun w i j v hij => World.cell?_setCell_other _ _ _ _ (fun e => by injection e; omega)
  have hs : ∀ (w : World) (i : Nat) (v y : Value), w.cell? ⟨b, i, none⟩ = some y → (w.setCell ⟨b, i, none⟩ v).cell? ⟨b, i, none⟩ = some v := fun w i v y h => World.cell?_setCell_same _ _ _ h
  refine ⟨?_, ?_, ?_, ?_, ?_, ?_, ((((Kept1.set b W 2 x2).trans (Kept1.set b _ 3 x3)).trans (Kept1.set b _ 4 x4)).trans (Kept1.set b _ 5 x5)), fun q => by simp only [V, World.frozen?_setCell]⟩
  · exact (ho _ 5 2 _ (by decide)).trans ((ho _ 4 2 _ (by decide)).trans ((ho _ 3 2 _ (by decide)).trans (hs _ _ _ _ h2)))
  · exact (ho _ 5 3 _ (by decide)).trans ((ho _ 4 3 _ (by decide)).trans (hs _ _ _ _ ((ho _ 2 3 _ (by decide)).trans h3)))
  · exact (ho _ 5 4 _ (by decide)).trans (hs _ _ _ _ ((ho _ 3 4 _ (by decide)).trans ((ho _ 2 4 _ (by decide)).trans h4)))
  · exact hs _ _ _ _ ((ho _ 4 5 _ (by decide)).trans ((ho _ 3 5 _ (by decide)).trans ((ho _ 2 5 _ (by decide)).trans h5)))
  · exact (ho _ 5 0 _ (by decide)).trans ((ho _ 4 0 _ (by decide)).trans ((ho _ 3 0 _ (by decide)).trans (ho _ 2 0 _ (by decide))))
  · exact (ho _ 5 1 _ (by decide)).trans ((ho _ 4 1 _ (by decide)).trans ((ho _ 3 1 _ (by decide)).trans (ho _ 2 1 _ (by decide))))

section
variable {W W1 : World} {bw i i' bs bo : Nat} {X Y P Q : ST}
theorem Duo.merge (h : Duo W bw i i' bs bo X Y P Q) (hl : X.1.length = Y.1.length) :
    Calls Try.prog 35 #[.pointer (some ⟨bs, 0, none⟩), .pointer (some ⟨bo, 0, none⟩)] W fun e w' => e = .returned (.tuple #[.int .i64 ((mergeS X.1 X.2 0 Y.2).1 : Int), .int .i64 ((mergeS X.1 X.2 0 Y.2).2.1 : Int)]) ∧ Duo w' bw i i' bs bo (X.1, (mergeS X.1 X.2 0 Y.2).2.2) Y P Q ∧ Kept3 bs bo bw W w' := by
  obtain ⟨A, c, r, T, hS, e⟩ := h.S
  obtain ⟨A2, c2, r2, T2, hO, e2⟩ := h.O
  have hz := h.lens
  refine (merge_main W bs bo hS hO h.n1 hl (fun k hk => ⟨by omega, by omega, by omega⟩)).mono ?_
  rintro e1 w' ⟨e3, ⟨r', T', hS2, hio⟩, _, hk⟩
  rw [e, e2] at e3 hio
  exact ⟨e3, h.set ⟨A, c, r', T', hS2, hio⟩ hk, Kept3.one hk (.inl rfl)⟩
theorem Duo.mergeW (h : Duo W bw i i' bs bo X Y P Q) (hl : X.1.length ≠ Y.1.length) :
    Calls Try.prog 35 #[.pointer (some ⟨bs, 0, none⟩), .pointer (some ⟨bo, 0, none⟩)] W fun e w' => e = .returned (.tuple #[.int .i64 0, .int .i64 14]) ∧ Duo w' bw i i' bs bo X Y P Q ∧ Kept3 bs bo bw W w' := by
  obtain ⟨A, c, r, T, hS, e⟩ := h.S
  obtain ⟨A2, c2, r2, T2, hO, e2⟩ := h.O
  refine (merge_width W bs bo hS hO hl).mono ?_
  rintro e1 w' ⟨e3, hb⟩
  exact ⟨e3, h.since ⟨hb⟩, Kept3.since ⟨hb⟩⟩
/-- The document's Merge: what it is handed, and what it does. -/
theorem Duo.rmerge (h : Duo W bw i i' bs bo X Y P Q) :
    ∃ A2 c2 A3 c3, W.cell? ⟨bw, 2 + 2 * i', none⟩ = some (.slice A2 Q.1.length c2) ∧ W.cell? ⟨bw, 2 + 2 * i' + 1, none⟩ = some (.slice A3 Q.2.length c3) ∧
      (P.1.length = Q.1.length → Calls Try.prog 68 #[.pointer (some ⟨bw, 2 + 2 * i, none⟩), .agg #[.slice A2 Q.1.length c2, .slice A3 Q.2.length c3]] W fun e w' => e = .returned (.tuple #[.int .i64 ((mergeS P.1 P.2 0 Q.2).1 : Int), .int .i64 ((mergeS P.1 P.2 0 Q.2).2.1 : Int)]) ∧ Duo w' bw i i' bs bo X Y (P.1, (mergeS P.1 P.2 0 Q.2).2.2) Q ∧ Kept3 bs bo bw W w') ∧
      (P.1.length ≠ Q.1.length → Calls Try.prog 68 #[.pointer (some ⟨bw, 2 + 2 * i, none⟩), .agg #[.slice A2 Q.1.length c2, .slice A3 Q.2.length c3]] W fun e w' => e = .returned (.tuple #[.int .i64 0, .int .i64 14]) ∧ Duo w' bw i i' bs bo X Y P Q ∧ Kept3 bs bo bw W w') := by
  obtain ⟨A, c, Ar, cr, hR⟩ := h.R
  obtain ⟨A2, c2, A3, c3, hQ⟩ := h.N
  have hz := h.lens
  refine ⟨A2, c2, A3, c3, hQ.c0, hQ.c1, fun hl => ?_, fun hl => ?_⟩
  · refine (rmerge_main W bw _ hR h.up h.not.2.2 (fun k hk => ⟨by omega, by omega, by omega⟩) A2 _ c2 A3 c3 Q.2 hQ.R h.not.2.2 hl hQ.le).mono ?_
    rintro e1 w' ⟨e3, Al, cl, h2, h3⟩
    exact ⟨e3, h.ref ⟨A, c, Al, cl, h2⟩ (mergeS_up hR.rto _ _ _ hR.fit h.up) h3, Kept3.one h3.k (.inr (.inr rfl))⟩
  · refine (rmerge_width W bw _ hR A2 _ c2 A3 _ c3 hl).mono ?_
    rintro e1 w' ⟨e3, hb⟩
    exact ⟨e3, h.since ⟨hb⟩, Kept3.since ⟨hb⟩⟩
theorem Duo.swapW (h : Duo W bw i i' bs bo X Y P Q) (hl : X.1.length ≠ Y.1.length) :
    Calls Try.prog 37 #[.pointer (some ⟨bs, 0, none⟩), .pointer (some ⟨bo, 0, none⟩)] W fun e w' => e = .returned (.int .i64 14) ∧ Duo w' bw i i' bs bo X Y P Q ∧ Kept3 bs bo bw W w' := by
  obtain ⟨A, c, r, T, hS, e⟩ := h.S
  obtain ⟨A2, c2, r2, T2, hO, e2⟩ := h.O
  refine (swap_width W bs bo hS hO hl).mono ?_
  rintro e1 w' ⟨e3, hb⟩
  exact ⟨e3, h.since (Since.ofDrawn hb), Kept3.since (Since.ofDrawn hb)⟩
theorem Duo.swap (h : Duo W bw i i' bs bo X Y P Q) (hl : X.1.length = Y.1.length) :
    Calls Try.prog 37 #[.pointer (some ⟨bs, 0, none⟩), .pointer (some ⟨bo, 0, none⟩)] W fun e w' => e = .returned (.int .i64 0) ∧ Duo w' bw i i' bs bo Y X P Q ∧ Kept3 bs bo bw W w' := by
  obtain ⟨A, c, r, T, hS, e⟩ := h.S
  obtain ⟨A2, c2, r2, T2, hO, e2⟩ := h.O
  obtain ⟨A3, c3, r3, d3, hr⟩ := h.R
  obtain ⟨A4, c4, r4, d4, hq⟩ := h.N
  refine (swap_same W bs bo hS hO h.n1 hl).mono ?_
  rintro e1 w' ⟨e3, hk, hx, hy⟩
  have hB := hk.heap _ h.lw h.n2.symm h.n3.symm
  have hc : ∀ j, w'.cell? ⟨bw, j, none⟩ = W.cell? ⟨bw, j, none⟩ := fun j => by unfold World.cell?; simp only [hB]
  have hf : ∀ j, w'.frozen? ⟨bw, j, none⟩ = W.frozen? ⟨bw, j, none⟩ := fun j => by unfold World.frozen?; simp only [hB]
  have hst : ∀ q, Not3 bs bo bw q → q < W.heap.size → w'.heap[q]? = W.heap[q]? := fun q hq hl => hk.heap q hl hq.1 hq.2.1
  exact ⟨e3, ⟨h.ii, (hc _).trans h.cs, (hc _).trans h.co, ⟨A2, c2, r2, T2, hO.move hst hx h.not.1, e2⟩, ⟨A, c, r, T, hS.move hst hy h.not.2.1, e⟩, ⟨A3, c3, r3, d3, hr.step hst (hc _) (hc _) (hf _)⟩, ⟨A4, c4, r4, d4, hq.step hst (hc _) (hc _) (hf _)⟩, h.n1, h.n2, h.n3, fun j => (hf j).trans (h.fr j), h.up, h.uq⟩, Kept3.two hk⟩
/-- The document's two change places. -/
theorem Duo.rswap (h : Duo W bw i i' bs bo X Y P Q) :
    ∃ a2 n2 c2 a3 n3 c3 a4 n4 c4 a5 n5 c5, W.cell? ⟨bw, 2, none⟩ = some (.slice a2 n2 c2) ∧ W.cell? ⟨bw, 3, none⟩ = some (.slice a3 n3 c3) ∧ W.cell? ⟨bw, 4, none⟩ = some (.slice a4 n4 c4) ∧ W.cell? ⟨bw, 5, none⟩ = some (.slice a5 n5 c5) ∧
      Duo ((((W.setCell ⟨bw, 2, none⟩ (.slice a4 n4 c4)).setCell ⟨bw, 3, none⟩ (.slice a5 n5 c5)).setCell ⟨bw, 4, none⟩ (.slice a2 n2 c2)).setCell ⟨bw, 5, none⟩ (.slice a3 n3 c3)) bw i i' bs bo X Y Q P ∧ Kept3 bs bo bw W ((((W.setCell ⟨bw, 2, none⟩ (.slice a4 n4 c4)).setCell ⟨bw, 3, none⟩ (.slice a5 n5 c5)).setCell ⟨bw, 4, none⟩ (.slice a2 n2 c2)).setCell ⟨bw, 5, none⟩ (.slice a3 n3 c3)) := by
  obtain ⟨A, c, r, T, hS, e⟩ := h.S
  obtain ⟨A2, c2, r2, T2, hO, e2⟩ := h.O
  obtain ⟨A3, c3, r3, d3, hr⟩ := h.R
  obtain ⟨A4, c4, r4, d4, hq⟩ := h.N
  have key : ∃ a2 n2 c2 a3 n3 c3 a4 n4 c4 a5 n5 c5, W.cell? ⟨bw, 2, none⟩ = some (.slice a2 n2 c2) ∧ W.cell? ⟨bw, 3, none⟩ = some (.slice a3 n3 c3) ∧ W.cell? ⟨bw, 4, none⟩ = some (.slice a4 n4 c4) ∧ W.cell? ⟨bw, 5, none⟩ = some (.slice a5 n5 c5) := by
    rcases h.ii with ⟨rfl, rfl⟩ | ⟨rfl, rfl⟩
    · exact ⟨_, _, _, _, _, _, _, _, _, _, _, _, hr.c0, hr.c1, hq.c0, hq.c1⟩
    · exact ⟨_, _, _, _, _, _, _, _, _, _, _, _, hq.c0, hq.c1, hr.c0, hr.c1⟩
  obtain ⟨x2, n2, y2, x3, n3, y3, x4, n4, y4, x5, n5, y5, h2, h3, h4, h5⟩ := key
  refine ⟨x2, n2, y2, x3, n3, y3, x4, n4, y4, x5, n5, y5, h2, h3, h4, h5, ?_⟩
  obtain ⟨k2, k3, k4, k5, k0, k1, hk, hf⟩ := four W bw h2 h3 h4 h5 (.slice x4 n4 y4) (.slice x5 n5 y5) (.slice x2 n2 y2) (.slice x3 n3 y3)
  obtain ⟨V, hV⟩ : ∃ V, V = (((W.setCell ⟨bw, 2, none⟩ (.slice x4 n4 y4)).setCell ⟨bw, 3, none⟩ (.slice x5 n5 y5)).setCell ⟨bw, 4, none⟩ (.slice x2 n2 y2)).setCell ⟨bw, 5, none⟩ (.slice x3 n3 y3) := ⟨_, rfl⟩
  rw [← hV] at k2 k3 k4 k5 k0 k1 hk hf ⊢
  clear hV
  have hst : ∀ q, Not3 bs bo bw q → q < W.heap.size → V.heap[q]? = W.heap[q]? := fun q hq hl => hk.heap hl hq.2.2
  have a2 := h2.symm
  have a3 := h3.symm
  have a4 := h4.symm
  have a5 := h5.symm
  rcases h.ii with ⟨rfl, rfl⟩ | ⟨rfl, rfl⟩
  · exact ⟨⟨h.ii, k0.trans h.cs, k1.trans h.co, ⟨A, c, r, T, hS.step hst (hk.heap h.ls h.n2), e⟩, ⟨A2, c2, r2, T2, hO.step hst (hk.heap h.lo h.n3), e2⟩, ⟨A4, c4, r4, d4, ⟨k2.trans (a4.trans hq.c0), k3.trans (a5.trans hq.c1), hq.so, hq.sl, Kd.F_step hq.F hst, Kd.F_step hq.R hst, hq.rto, hq.fit, hq.le, (hf _).trans hr.fz⟩⟩, ⟨A3, c3, r3, d3, ⟨k4.trans (a2.trans hr.c0), k5.trans (a3.trans hr.c1), hr.so, hr.sl, Kd.F_step hr.F hst, Kd.F_step hr.R hst, hr.rto, hr.fit, hr.le, (hf _).trans hq.fz⟩⟩, h.n1, h.n2, h.n3, fun j => (hf _).trans (h.fr j), h.uq, h.up⟩, Kept3.one hk (.inr (.inr rfl))⟩
  · exact ⟨⟨h.ii, k1.trans h.cs, k0.trans h.co, ⟨A, c, r, T, hS.step hst (hk.heap h.ls h.n2), e⟩, ⟨A2, c2, r2, T2, hO.step hst (hk.heap h.lo h.n3), e2⟩, ⟨A4, c4, r4, d4, ⟨k4.trans (a2.trans hq.c0), k5.trans (a3.trans hq.c1), hq.so, hq.sl, Kd.F_step hq.F hst, Kd.F_step hq.R hst, hq.rto, hq.fit, hq.le, (hf _).trans hr.fz⟩⟩, ⟨A3, c3, r3, d3, ⟨k2.trans (a4.trans hr.c0), k3.trans (a5.trans hr.c1), hr.so, hr.sl, Kd.F_step hr.F hst, Kd.F_step hr.R hst, hr.rto, hr.fit, hr.le, (hf _).trans hq.fz⟩⟩, h.n1, h.n2, h.n3, fun j => (hf _).trans (h.fr j), h.uq, h.up⟩, Kept3.one hk (.inr (.inr rfl))⟩
end

set_option maxHeartbeats 4000000 in
set_option maxRecDepth 100000 in
theorem does_merge (W : World) (bw i i' bs bo : Nat) {X Y : ST} (h : Duo W bw i i' bs bo X Y X Y) (K On k : Int) (At : Option Addr) (ct : Nat) (t : Tp) (hk : Key W bs bo bw At ct t) (hOn : bits BinOp.and IntKind.i64 On 1 = (i : Int)) (hK : (Int.tmod (wrap64 (Int.tmod K 8 + 8)) 8) = 4) (hl : X.1.length = Y.1.length) :
    Calls Try.prog 33 #[.pointer (some ⟨bw, 0, none⟩), .agg #[.int .i64 K, .int .i64 On, .int .i64 k, .slice At t.length ct]] W (DoesR W bw i i' bs bo) := by
  obtain ⟨V, hV⟩ : ∃ V, V = W.alloc (.cells #[.int .i64 K, .int .i64 On, .int .i64 k, .slice At t.length ct] 60) := ⟨_, rfl⟩
  have hs : Since W V := by rw [hV]; exact (Since.refl W).alloc _
  have hbx : V.heap[W.heap.size]? = some (.cells #[.int .i64 K, .int .i64 On, .int .i64 k, .slice At t.length ct] 60 (0, 0)) := by rw [hV]; exact heap_alloc_new W _
  have v0 : V.cell? ⟨W.heap.size, 0, none⟩ = some (.int .i64 K) := (cell_of_heap hbx 0).trans rfl
  have v2 : V.cell? ⟨W.heap.size, 2, none⟩ = some (.int .i64 k) := (cell_of_heap hbx 2).trans rfl
  have v3 : V.cell? ⟨W.heap.size, 3, none⟩ = some (.slice At t.length ct) := (cell_of_heap hbx 3).trans rfl
  have HVV := Aside0.mk hV
  have cs := (h.since hs).cs
  have co := (h.since hs).co
  have HV := Aside0.mk (And.intro (h.since hs) (And.intro (hk.kept (Kept3.since hs)) hs))
  have HD0 := Aside0.mk (HV.out.1.since (Since.refl V).drew)
  have HL := Aside0.mk hl
  obtain ⟨q, hq⟩ : ∃ q, q = (mergeS X.1 X.2 0 Y.2).1 := ⟨_, rfl⟩
  obtain ⟨qe, hqe⟩ : ∃ q, q = (mergeS X.1 X.2 0 Y.2).2.1 := ⟨_, rfl⟩
  have hI := Aside0.mk (HD0.out.merge hl)
  rw [← hq, ← hqe] at hI
  have HQ := Aside0.mk (And.intro hq hqe)
  rcases h.ii with ⟨rfl, rfl⟩ | ⟨rfl, rfl⟩
  all_goals
    clear h hk hs hV hbx hq hqe hl
    go_enter Try.func33, Try.ntmps33
    go_wp2
    rw [← HVV.out]
    go_region
    all_goals go_wp2_with (first
      | (go_at_call 35; (refine hI.out.mono ?_); rintro e w5 ⟨rfl, hd5, hk5⟩; have D5 := Aside0.mk hd5; have K5 := Aside0.mk ((Kept3.since (Since.refl V).drew).trans hk5); obtain ⟨A2, c2, A3, c3, p2, p3, hm, hw⟩ := hd5.rmerge; have J5 := hm HL.out; rw [← HQ.out.1, ← HQ.out.2] at J5; have J6 := Aside0.mk J5; have w0 := (D5.out).cs; have w1 := D5.out.co; clear hd5 hk5 hm hw J5)
      | (go_at_call 68; (refine J6.out.mono ?_); rintro e w6 ⟨rfl, hd6, hk6⟩; have D6 := Aside0.mk hd6; have K6 := Aside0.mk (K5.out.trans hk6); clear hd6 hk6))
    go_ret
    exact ⟨by simp, ⟨_, _, D6.out⟩, (Kept3.since HV.out.2.2).trans K6.out⟩

set_option maxHeartbeats 4000000 in
set_option maxRecDepth 100000 in
theorem does_mergeW (W : World) (bw i i' bs bo : Nat) {X Y : ST} (h : Duo W bw i i' bs bo X Y X Y) (K On k : Int) (At : Option Addr) (ct : Nat) (t : Tp) (hk : Key W bs bo bw At ct t) (hOn : bits BinOp.and IntKind.i64 On 1 = (i : Int)) (hK : (Int.tmod (wrap64 (Int.tmod K 8 + 8)) 8) = 4) (hl : X.1.length ≠ Y.1.length) :
    Calls Try.prog 33 #[.pointer (some ⟨bw, 0, none⟩), .agg #[.int .i64 K, .int .i64 On, .int .i64 k, .slice At t.length ct]] W (DoesR W bw i i' bs bo) := by
  obtain ⟨V, hV⟩ : ∃ V, V = W.alloc (.cells #[.int .i64 K, .int .i64 On, .int .i64 k, .slice At t.length ct] 60) := ⟨_, rfl⟩
  have hs : Since W V := by rw [hV]; exact (Since.refl W).alloc _
  have hbx : V.heap[W.heap.size]? = some (.cells #[.int .i64 K, .int .i64 On, .int .i64 k, .slice At t.length ct] 60 (0, 0)) := by rw [hV]; exact heap_alloc_new W _
  have v0 : V.cell? ⟨W.heap.size, 0, none⟩ = some (.int .i64 K) := (cell_of_heap hbx 0).trans rfl
  have v2 : V.cell? ⟨W.heap.size, 2, none⟩ = some (.int .i64 k) := (cell_of_heap hbx 2).trans rfl
  have v3 : V.cell? ⟨W.heap.size, 3, none⟩ = some (.slice At t.length ct) := (cell_of_heap hbx 3).trans rfl
  have HVV := Aside0.mk hV
  have cs := (h.since hs).cs
  have co := (h.since hs).co
  have HV := Aside0.mk (And.intro (h.since hs) (And.intro (hk.kept (Kept3.since hs)) hs))
  have HD0 := Aside0.mk (HV.out.1.since (Since.refl V).drew)
  have HL := Aside0.mk hl
  have hI := Aside0.mk (HD0.out.mergeW hl)
  rcases h.ii with ⟨rfl, rfl⟩ | ⟨rfl, rfl⟩
  all_goals
    clear h hk hs hV hbx hl
    go_enter Try.func33, Try.ntmps33
    go_wp2
    rw [← HVV.out]
    go_region
    all_goals go_wp2_with (first
      | (go_at_call 35; (refine hI.out.mono ?_); rintro e w5 ⟨rfl, hd5, hk5⟩; have D5 := Aside0.mk hd5; have K5 := Aside0.mk ((Kept3.since (Since.refl V).drew).trans hk5); obtain ⟨A2, c2, A3, c3, p2, p3, hm, hw⟩ := hd5.rmerge; have J6 := Aside0.mk (hw HL.out); have w0 := (D5.out).cs; have w1 := D5.out.co; clear hd5 hk5 hm hw)
      | (go_at_call 68; (refine J6.out.mono ?_); rintro e w6 ⟨rfl, hd6, hk6⟩; have D6 := Aside0.mk hd6; have K6 := Aside0.mk (K5.out.trans hk6); clear hd6 hk6))
    go_ret
    exact ⟨by simp, ⟨_, _, D6.out⟩, (Kept3.since HV.out.2.2).trans K6.out⟩

set_option maxHeartbeats 4000000 in
set_option maxRecDepth 100000 in
theorem does_swapW (W : World) (bw i i' bs bo : Nat) {X Y : ST} (h : Duo W bw i i' bs bo X Y X Y) (K On k : Int) (At : Option Addr) (ct : Nat) (t : Tp) (hk : Key W bs bo bw At ct t) (hOn : bits BinOp.and IntKind.i64 On 1 = (i : Int)) (hK : (Int.tmod (wrap64 (Int.tmod K 8 + 8)) 8) = 5) (hl : X.1.length ≠ Y.1.length) :
    Calls Try.prog 33 #[.pointer (some ⟨bw, 0, none⟩), .agg #[.int .i64 K, .int .i64 On, .int .i64 k, .slice At t.length ct]] W (DoesR W bw i i' bs bo) := by
  obtain ⟨V, hV⟩ : ∃ V, V = W.alloc (.cells #[.int .i64 K, .int .i64 On, .int .i64 k, .slice At t.length ct] 60) := ⟨_, rfl⟩
  have hs : Since W V := by rw [hV]; exact (Since.refl W).alloc _
  have hbx : V.heap[W.heap.size]? = some (.cells #[.int .i64 K, .int .i64 On, .int .i64 k, .slice At t.length ct] 60 (0, 0)) := by rw [hV]; exact heap_alloc_new W _
  have v0 : V.cell? ⟨W.heap.size, 0, none⟩ = some (.int .i64 K) := (cell_of_heap hbx 0).trans rfl
  have v2 : V.cell? ⟨W.heap.size, 2, none⟩ = some (.int .i64 k) := (cell_of_heap hbx 2).trans rfl
  have v3 : V.cell? ⟨W.heap.size, 3, none⟩ = some (.slice At t.length ct) := (cell_of_heap hbx 3).trans rfl
  have HVV := Aside0.mk hV
  have cs := (h.since hs).cs
  have co := (h.since hs).co
  have HV := Aside0.mk (And.intro (h.since hs) (And.intro (hk.kept (Kept3.since hs)) hs))
  have HD0 := Aside0.mk (HV.out.1.since (Since.refl V).drew)
  have hd : ((X.1.length : Int) != (Y.1.length : Int)) = true := bne_iff_ne.2 (by omega)
  have hI := Aside0.mk (HD0.out.swapW hl)
  rcases h.ii with ⟨rfl, rfl⟩ | ⟨rfl, rfl⟩
  all_goals
    clear h hk hs hV hbx hl
    go_enter Try.func33, Try.ntmps33
    go_wp2
    rw [← HVV.out]
    go_region
    all_goals go_wp2_with (first
      | (go_at_call 37; (refine hI.out.mono ?_); rintro e w5 ⟨rfl, hd5, hk5⟩; have D5 := Aside0.mk hd5; have K5 := Aside0.mk ((Kept3.since (Since.refl V).drew).trans hk5); obtain ⟨Ap, cp, Arp, crp, hRp⟩ := hd5.R; obtain ⟨Aq, cq, Arq, crq, hRq⟩ := hd5.N; have r0 := hRp.c0; have q0 := hRq.c0; have w0 := (D5.out).cs; have w1 := D5.out.co; clear hRp hRq; clear hd5 hk5))
    go_region
    all_goals go_wp2_with fail
    all_goals go_ret
    all_goals exact ⟨by simp, ⟨_, _, D5.out.since ((Since.refl _).drew)⟩, (Kept3.since HV.out.2.2).trans (K5.out.trans (Kept3.since (Since.refl _).drew))⟩

set_option maxHeartbeats 4000000 in
set_option maxRecDepth 100000 in
theorem does_swap (W : World) (bw i i' bs bo : Nat) {X Y : ST} (h : Duo W bw i i' bs bo X Y X Y) (K On k : Int) (At : Option Addr) (ct : Nat) (t : Tp) (hk : Key W bs bo bw At ct t) (hOn : bits BinOp.and IntKind.i64 On 1 = (i : Int)) (hK : (Int.tmod (wrap64 (Int.tmod K 8 + 8)) 8) = 5) (hl : X.1.length = Y.1.length) :
    Calls Try.prog 33 #[.pointer (some ⟨bw, 0, none⟩), .agg #[.int .i64 K, .int .i64 On, .int .i64 k, .slice At t.length ct]] W (DoesR W bw i i' bs bo) := by
  obtain ⟨V, hV⟩ : ∃ V, V = W.alloc (.cells #[.int .i64 K, .int .i64 On, .int .i64 k, .slice At t.length ct] 60) := ⟨_, rfl⟩
  have hs : Since W V := by rw [hV]; exact (Since.refl W).alloc _
  have hbx : V.heap[W.heap.size]? = some (.cells #[.int .i64 K, .int .i64 On, .int .i64 k, .slice At t.length ct] 60 (0, 0)) := by rw [hV]; exact heap_alloc_new W _
  have v0 : V.cell? ⟨W.heap.size, 0, none⟩ = some (.int .i64 K) := (cell_of_heap hbx 0).trans rfl
  have v2 : V.cell? ⟨W.heap.size, 2, none⟩ = some (.int .i64 k) := (cell_of_heap hbx 2).trans rfl
  have v3 : V.cell? ⟨W.heap.size, 3, none⟩ = some (.slice At t.length ct) := (cell_of_heap hbx 3).trans rfl
  have HVV := Aside0.mk hV
  have cs := (h.since hs).cs
  have co := (h.since hs).co
  have HV := Aside0.mk (And.intro (h.since hs) (And.intro (hk.kept (Kept3.since hs)) hs))
  have HD0 := Aside0.mk (HV.out.1.since (Since.refl V).drew)
  have hd : ((X.1.length : Int) != (Y.1.length : Int)) = false := by rw [hl]; simp
  have hI := Aside0.mk (HD0.out.swap hl)
  rcases h.ii with ⟨rfl, rfl⟩ | ⟨rfl, rfl⟩
  all_goals
    clear h hk hs hV hbx hl
    go_enter Try.func33, Try.ntmps33
    go_wp2
    rw [← HVV.out]
    go_region
    all_goals go_wp2_with (first
      | (go_at_call 37; (refine hI.out.mono ?_); rintro e w5 ⟨rfl, hd5, hk5⟩; have D5 := Aside0.mk hd5; have K5 := Aside0.mk ((Kept3.since (Since.refl V).drew).trans hk5); obtain ⟨Ap, cp, Arp, crp, hRp⟩ := hd5.R; obtain ⟨Aq, cq, Arq, crq, hRq⟩ := hd5.N; have r0 := hRp.c0; have q0 := hRq.c0; have w0 := (D5.out).cs; have w1 := D5.out.co; clear hRp hRq; clear hd5 hk5))
    go_region
    all_goals go_wp2_with fail
    obtain ⟨x2, n2, y2, x3, n3, y3, x4, n4, y4, x5, n5, y5, j2, j3, j4, j5, hsw⟩ := D5.out.rswap
    have HSW := Aside0.mk hsw
    have g2 := D5.out.fr 2
    have g3 := D5.out.fr 3
    have g4 := D5.out.fr 4
    have g5 := D5.out.fr 5
    clear r0 q0 hsw
    go_region
    all_goals go_wp2_with fail
    all_goals go_ret
    all_goals exact ⟨by simp, ⟨_, _, HSW.out.1.since ((Since.refl _).drew.drew)⟩, (Kept3.since HV.out.2.2).trans (K5.out.trans (HSW.out.2.trans (Kept3.since (Since.refl _).drew.drew)))⟩

end Go.Proofs.Ytcmllllbmgcnlaa.Tup

namespace Go.Proofs.Ytcmllllbmgcnlaa.Tup
open Go.RowKit Go.Lib Go.Shelf Go.Proofs.Ytcmllllbmgcnlaa.F Go.Proofs.YtcmllllbmgcnlaaW.PrintWords Go.Proofs.YtcmllllbmgcnlaaW.PrintLast Go.Proofs.YtcmllllbmgcnlaaW.PrintMore
set_option linter.unusedVariables false
set_option linter.unusedSimpArgs false

set_option maxHeartbeats 4000000 in
set_option maxRecDepth 100000 in
theorem stands_calls (W : World) (bw b0 b1 : Nat) {X Y : ST} (h : Duo W bw 0 1 b0 b1 X Y X Y) :
    Calls Try.prog 34 #[.pointer (some ⟨bw, 0, none⟩)] W fun e w' => e = .returned (.bool true) ∧ Since W w' := by
  have H := Aside0.mk h
  clear h
  go_enter Try.func34, Try.ntmps34
  go_wp2_with fail
  go_loopg [4] 2 (fun gk v4 wr => ∃ i : Nat, v4 = .int .i64 (i : Int) ∧ Aside0 (i + gk = 2) ∧ Aside0 (Since W wr))
  case atStart => exact ⟨0, rfl, ⟨by omega⟩, ⟨Since.refl _⟩⟩
  case round =>
    obtain ⟨i, rfl, HI, HS⟩ := hrel
    by_cases hi : i < 2
    · have hD : ∃ bs bo i' P Q, Duo wr bw i i' bs bo P Q P Q := by
        rcases (by omega : i = 0 ∨ i = 1) with rfl | rfl
        · exact ⟨_, _, _, _, _, H.out.since HS.out⟩
        · exact ⟨_, _, _, _, _, (H.out.since HS.out).symm⟩
      obtain ⟨bs, bo, i', P, Q, D⟩ := hD
      obtain ⟨A3, c3, r3, T, hS, eT⟩ := D.S
      obtain ⟨Ao, co, Al, cl, hR⟩ := D.R
      obtain ⟨m, hm⟩ : ∃ m, m = P.2.length := ⟨_, rfl⟩
      obtain ⟨on, hon⟩ : ∃ m, m = P.1.length := ⟨_, rfl⟩
      have HM := Aside0.mk (And.intro hm hon)
      have HR := Aside0.mk hR
      have HSS := Aside0.mk hS
      have HET := Aside0.mk eT
      have HKP := Aside0.mk (show ∀ w', Since wr w' → (w'.cell? ⟨bw, i, none⟩ = some (.pointer (some ⟨bs, 0, none⟩)) ∧ w'.cell? ⟨bw, 2 + 2 * i, none⟩ = some (.slice Ao on co) ∧ w'.cell? ⟨bw, 2 + 2 * i + 1, none⟩ = some (.slice Al m cl)) ∧ Since wr w' from fun w' hs => ⟨⟨pw_cell_below hs.b D.cs, by rw [HM.out.2]; exact (HR.out.since hs).c0, by rw [HM.out.1]; exact (HR.out.since hs).c1⟩, hs⟩)
      have HLN := Aside0.mk (fun (w2 : World) (hs : Since wr w2) => show Calls Try.prog 19 #[.pointer (some ⟨bs, 0, none⟩)] w2 (fun e w' => e = .returned (.int .i64 (m : Int)) ∧ Since w2 w') by
        rw [HM.out.1, ← HET.out]
        exact (len_calls w2 bs (HSS.out.since hs)).mono fun e w' h => ⟨h.1, h.2 ▸ Since.refl _⟩)
      have HOR := Aside0.mk (fun (w2 : World) (hs : Since wr w2) => show Calls Try.prog 28 #[.pointer (some ⟨bs, 0, none⟩)] w2 (fun e w' => ∃ A c, e = .returned (.slice A on c) ∧ Since w2 w' ∧ Aside0 (∀ w3, Since w' w3 → Sl w3 A c P.1)) by
        refine (order_calls w2 bs (HSS.out.since hs)).mono ?_
        rintro e w' ⟨A, c, rfl, hh⟩
        rw [HM.out.2]
        exact ⟨A, c, rfl, ⟨hh.1⟩, ⟨fun w3 h3 => h3.sl hh.sl⟩⟩)
      have HSO := Aside0.mk (fun (w2 : World) (hs : Since wr w2) (A : Option Addr) (c : Nat) (h1 : Sl w2 A c P.1) => show Calls Try.prog 25 #[.slice A on c, .slice Ao on co] w2 (fun e w' => e = .returned (.bool true) ∧ Since w2 w') by
        have h := same_calls A c P.1 Ao co P.1 w2 h1 (HR.out.since hs).slo (by have := HR.out.rto.1; omega)
        rw [decide_eq_true rfl, ← HM.out.2] at h
        exact h.mono fun e w' h => ⟨h.1, Since.ofDrawn h.2⟩)
      have HAL := Aside0.mk (fun (w2 : World) (hs : Since wr w2) => show Calls Try.prog 22 #[.pointer (some ⟨bs, 0, none⟩)] w2 (fun e w' => ∃ v, e = .returned v ∧ Since w2 w' ∧ Aside0 (∀ w3, Since w' w3 → Calls Try.prog 21 #[v] w3 (fun e w4 => ∃ A c, e = .returned (.slice A m c) ∧ Since w3 w4 ∧ Aside0 (m ≤ c ∧ ∀ w5, Since w4 w5 → Kd.C KT w5 A m P.2)))) by
        refine (all_calls w2 (.pointer (some ⟨bs, 0, none⟩)) ⟨_, rfl⟩).mono ?_
        rintro e w' ⟨rfl, rfl⟩
        have ha : Since w2 (w2.alloc (.cells #[.pointer (some ⟨bs, 0, none⟩)] 24)) := (Since.refl w2).alloc _
        refine ⟨_, rfl, ha, ⟨fun w3 h3 => ?_⟩⟩
        refine (listA_calls w3 w2.heap.size bs (HSS.out.since ((hs.trans ha).trans h3)) (pw_cell_below h3.b ((cell_of_heap (heap_alloc_new _ (.cells #[.pointer (some ⟨bs, 0, none⟩)] 24)) 0).trans rfl))).mono ?_
        rintro e4 w4 ⟨A4, c4, rfl, hc4, hF4, hb4⟩
        rw [HET.out, ← HM.out.1] at hc4 hF4 ⊢
        exact ⟨A4, c4, rfl, ⟨hb4⟩, ⟨hc4, fun w5 h5 => Kd.C_below (Kd.F_now hF4) h5.b⟩⟩)
      have HSM := Aside0.mk (fun (w2 : World) (hs : Since wr w2) (A : Option Addr) (c : Nat) (h1 : m ≤ c ∧ Kd.C KT w2 A m P.2) => show Calls Try.prog 20 #[.slice A m c, .slice Al m cl] w2 (fun e w' => e = .returned (.bool true) ∧ Since w2 w') by
        have h := same2_calls A c P.2 Al cl P.2 w2 (by rw [← HM.out.1]; exact h1.2) (by rw [← HM.out.1]; exact h1.1) (Kd.F_now (HR.out.since hs).R) HR.out.sl 8 (fun t ht => by have := (HR.out.fit t ht).1; have := HR.out.rto.1; omega) (by omega) (by have := HR.out.le; omega)
        rw [decide_eq_true rfl, ← HM.out.1] at h
        exact h.mono fun e w' h => ⟨h.1, Since.ofDrawn h.2⟩)
      clear hm hon hR hS eT D
      have hS1 := (Since.refl wr).drew
      rcases (by omega : i = 0 ∨ i = 1) with rfl | rfl
      · have k0 := (HKP.out _ (Since.refl _)).1.1
        go_wp2_with fail
        go_region_held3 (fun w' => (w'.cell? ⟨bw, 0, none⟩ = some (.pointer (some ⟨bs, 0, none⟩)) ∧ w'.cell? ⟨bw, 2, none⟩ = some (.slice Ao on co) ∧ w'.cell? ⟨bw, 3, none⟩ = some (.slice Al m cl)) ∧ Since wr w')
          (exact HKP.out _ (by ((try go_split_ands); first | exact Since.refl _ | assumption | exact Since.trans (by assumption) (by assumption) | exact Since.trans (Since.trans (by assumption) (by assumption)) (by assumption) | exact Since.trans (Since.trans (Since.trans (by assumption) (by assumption)) (by assumption)) (by assumption))))
          (first
        | (go_at_call 19; (refine (HLN.out _ (by ((try go_split_ands); first | exact Since.refl _ | assumption | exact Since.trans (by assumption) (by assumption) | exact Since.trans (Since.trans (by assumption) (by assumption)) (by assumption) | exact Since.trans (Since.trans (Since.trans (by assumption) (by assumption)) (by assumption)) (by assumption)))).mono ?_); rintro e w' ⟨rfl, hs5⟩)
        | (go_at_call 28; (refine (HOR.out _ (by ((try go_split_ands); first | exact Since.refl _ | assumption | exact Since.trans (by assumption) (by assumption) | exact Since.trans (Since.trans (by assumption) (by assumption)) (by assumption) | exact Since.trans (Since.trans (Since.trans (by assumption) (by assumption)) (by assumption)) (by assumption)))).mono ?_); rintro e w' ⟨A12, c12, rfl, hs6, HO6⟩)
        | (go_at_call 25; (refine (HSO.out _ (by ((try go_split_ands); first | exact Since.refl _ | assumption | exact Since.trans (by assumption) (by assumption) | exact Since.trans (Since.trans (by assumption) (by assumption)) (by assumption) | exact Since.trans (Since.trans (Since.trans (by assumption) (by assumption)) (by assumption)) (by assumption))) _ _ (HO6.out _ (by ((try go_split_ands); first | exact Since.refl _ | assumption | exact Since.trans (by assumption) (by assumption) | exact Since.trans (Since.trans (by assumption) (by assumption)) (by assumption) | exact Since.trans (Since.trans (Since.trans (by assumption) (by assumption)) (by assumption)) (by assumption))))).mono ?_); rintro e w' ⟨rfl, hs7⟩)
        | (go_at_call 22; (refine (HAL.out _ (by ((try go_split_ands); first | exact Since.refl _ | assumption | exact Since.trans (by assumption) (by assumption) | exact Since.trans (Since.trans (by assumption) (by assumption)) (by assumption) | exact Since.trans (Since.trans (Since.trans (by assumption) (by assumption)) (by assumption)) (by assumption)))).mono ?_); rintro e w' ⟨v5, rfl, hs8, HL5⟩)
        | (go_at_call 21; (refine (HL5.out _ (by ((try go_split_ands); first | exact Since.refl _ | assumption | exact Since.trans (by assumption) (by assumption) | exact Since.trans (Since.trans (by assumption) (by assumption)) (by assumption) | exact Since.trans (Since.trans (Since.trans (by assumption) (by assumption)) (by assumption)) (by assumption)))).mono ?_); rintro e w' ⟨A6, c6, rfl, hs9, HC6⟩)
        | (go_at_call 20; (refine (HSM.out _ (by ((try go_split_ands); first | exact Since.refl _ | assumption | exact Since.trans (by assumption) (by assumption) | exact Since.trans (Since.trans (by assumption) (by assumption)) (by assumption) | exact Since.trans (Since.trans (Since.trans (by assumption) (by assumption)) (by assumption)) (by assumption))) _ _ ⟨HC6.out.1, HC6.out.2 _ (by ((try go_split_ands); first | exact Since.refl _ | assumption | exact Since.trans (by assumption) (by assumption) | exact Since.trans (Since.trans (by assumption) (by assumption)) (by assumption) | exact Since.trans (Since.trans (Since.trans (by assumption) (by assumption)) (by assumption)) (by assumption)))⟩).mono ?_); rintro e w' ⟨rfl, hs10⟩))
        have hs11 : Since wr w' := by go_split_ands; assumption
        have HS11 := Aside0.mk hs11
        clear hs5 hs6 hs7 hs8 hs9 hs10 hs11 HL5 HC6 HO6
        go_wp2_with fail
        obtain ⟨k2, hk2⟩ : ∃ k2, k2 = gk - 1 := ⟨_, rfl⟩
        go_roundg k2
        case measure => have := HI.out; omega
        case rel => exact ⟨1, rfl, ⟨by have := HI.out; omega⟩, ⟨HS.out.trans HS11.out⟩⟩
      · have k0 := (HKP.out _ (Since.refl _)).1.1
        go_wp2_with fail
        go_region_held3 (fun w' => (w'.cell? ⟨bw, 1, none⟩ = some (.pointer (some ⟨bs, 0, none⟩)) ∧ w'.cell? ⟨bw, 4, none⟩ = some (.slice Ao on co) ∧ w'.cell? ⟨bw, 5, none⟩ = some (.slice Al m cl)) ∧ Since wr w')
          (exact HKP.out _ (by ((try go_split_ands); first | exact Since.refl _ | assumption | exact Since.trans (by assumption) (by assumption) | exact Since.trans (Since.trans (by assumption) (by assumption)) (by assumption) | exact Since.trans (Since.trans (Since.trans (by assumption) (by assumption)) (by assumption)) (by assumption))))
          (first
        | (go_at_call 19; (refine (HLN.out _ (by ((try go_split_ands); first | exact Since.refl _ | assumption | exact Since.trans (by assumption) (by assumption) | exact Since.trans (Since.trans (by assumption) (by assumption)) (by assumption) | exact Since.trans (Since.trans (Since.trans (by assumption) (by assumption)) (by assumption)) (by assumption)))).mono ?_); rintro e w' ⟨rfl, hs5⟩)
        | (go_at_call 28; (refine (HOR.out _ (by ((try go_split_ands); first | exact Since.refl _ | assumption | exact Since.trans (by assumption) (by assumption) | exact Since.trans (Since.trans (by assumption) (by assumption)) (by assumption) | exact Since.trans (Since.trans (Since.trans (by assumption) (by assumption)) (by assumption)) (by assumption)))).mono ?_); rintro e w' ⟨A12, c12, rfl, hs6, HO6⟩)
        | (go_at_call 25; (refine (HSO.out _ (by ((try go_split_ands); first | exact Since.refl _ | assumption | exact Since.trans (by assumption) (by assumption) | exact Since.trans (Since.trans (by assumption) (by assumption)) (by assumption) | exact Since.trans (Since.trans (Since.trans (by assumption) (by assumption)) (by assumption)) (by assumption))) _ _ (HO6.out _ (by ((try go_split_ands); first | exact Since.refl _ | assumption | exact Since.trans (by assumption) (by assumption) | exact Since.trans (Since.trans (by assumption) (by assumption)) (by assumption) | exact Since.trans (Since.trans (Since.trans (by assumption) (by assumption)) (by assumption)) (by assumption))))).mono ?_); rintro e w' ⟨rfl, hs7⟩)
        | (go_at_call 22; (refine (HAL.out _ (by ((try go_split_ands); first | exact Since.refl _ | assumption | exact Since.trans (by assumption) (by assumption) | exact Since.trans (Since.trans (by assumption) (by assumption)) (by assumption) | exact Since.trans (Since.trans (Since.trans (by assumption) (by assumption)) (by assumption)) (by assumption)))).mono ?_); rintro e w' ⟨v5, rfl, hs8, HL5⟩)
        | (go_at_call 21; (refine (HL5.out _ (by ((try go_split_ands); first | exact Since.refl _ | assumption | exact Since.trans (by assumption) (by assumption) | exact Since.trans (Since.trans (by assumption) (by assumption)) (by assumption) | exact Since.trans (Since.trans (Since.trans (by assumption) (by assumption)) (by assumption)) (by assumption)))).mono ?_); rintro e w' ⟨A6, c6, rfl, hs9, HC6⟩)
        | (go_at_call 20; (refine (HSM.out _ (by ((try go_split_ands); first | exact Since.refl _ | assumption | exact Since.trans (by assumption) (by assumption) | exact Since.trans (Since.trans (by assumption) (by assumption)) (by assumption) | exact Since.trans (Since.trans (Since.trans (by assumption) (by assumption)) (by assumption)) (by assumption))) _ _ ⟨HC6.out.1, HC6.out.2 _ (by ((try go_split_ands); first | exact Since.refl _ | assumption | exact Since.trans (by assumption) (by assumption) | exact Since.trans (Since.trans (by assumption) (by assumption)) (by assumption) | exact Since.trans (Since.trans (Since.trans (by assumption) (by assumption)) (by assumption)) (by assumption)))⟩).mono ?_); rintro e w' ⟨rfl, hs10⟩))
        have hs11 : Since wr w' := by go_split_ands; assumption
        have HS11 := Aside0.mk hs11
        clear hs5 hs6 hs7 hs8 hs9 hs10 hs11 HL5 HC6 HO6
        go_wp2_with fail
        obtain ⟨k2, hk2⟩ : ∃ k2, k2 = gk - 1 := ⟨_, rfl⟩
        go_roundg k2
        case measure => have := HI.out; omega
        case rel => exact ⟨2, rfl, ⟨by have := HI.out; omega⟩, ⟨HS.out.trans HS11.out⟩⟩
    · obtain rfl : i = 2 := by have := HI.out; omega
      go_wp2_with fail
      go_ret
      exact ⟨rfl, HS.out⟩

end Go.Proofs.Ytcmllllbmgcnlaa.Tup

namespace Go.Proofs.Ytcmllllbmgcnlaa.Tup
open Go.RowKit Go.Lib Go.Shelf Go.Proofs.Ytcmllllbmgcnlaa.F Go.Proofs.YtcmllllbmgcnlaaW.PrintWords Go.Proofs.YtcmllllbmgcnlaaW.PrintLast Go.Proofs.YtcmllllbmgcnlaaW.PrintMore
set_option linter.unusedVariables false
set_option linter.unusedSimpArgs false

/-- What begun answers. -/
def BegunR (W : World) (e : Ending) (w' : World) : Prop :=
  Since W w' ∧ (e = .returned (.tuple #[.pointer none, .bool true]) ∨ ∃ bw b0 b1 X Y, e = .returned (.tuple #[.pointer (some ⟨bw, 0, none⟩), .bool true]) ∧ W.heap.size ≤ bw ∧ W.heap.size ≤ b0 ∧ W.heap.size ≤ b1 ∧ Duo w' bw 0 1 b0 b1 X Y X Y)

theorem begun_duo {W w1 w2 w3 w4 w5 w6 : World} {b0 b1 bw : Nat} {A0 A1 A2 A3 : Option Addr} {c0 c1 c2 c3 r0 r1 : Nat} {a b : Tp}
    (h1 : Since W w1) (g0 : W.heap.size ≤ b0) (hS : SetAt (fun k => W.heap.size ≤ k ∧ k < w1.heap.size ∧ k ≠ b0) w1 b0 A0 c0 a r0 (.mk [] []))
    (h2 : Since w1 w2) (g1 : w1.heap.size ≤ b1) (hT : SetAt (fun k => w1.heap.size ≤ k ∧ k < w2.heap.size ∧ k ≠ b1) w2 b1 A1 c1 b r1 (.mk [] []))
    (h3 : Since w2 w3) (k2 : a.length ≤ c2) (hF : Kd.F (Kd.int .i64) w3 (fun k => w2.heap.size ≤ k) A2 a.length a)
    (h4 : Since w3 w4) (h5 : Since w4 w5) (k3 : b.length ≤ c3) (hG : Kd.F (Kd.int .i64) w5 (fun k => w4.heap.size ≤ k) A3 b.length b)
    (h6 : Since w5 w6) (hbw : w5.heap.size ≤ bw)
    (hB : w6.heap[bw]? = some (.cells #[.pointer (some ⟨b0, 0, none⟩), .pointer (some ⟨b1, 0, none⟩), .slice A2 a.length c2, .slice none 0 0, .slice A3 b.length c3, .slice none 0 0] 99 (0, 0))) :
    Duo w6 bw 0 1 b0 b1 (a, []) (b, []) (a, []) (b, []) := by
  have l0 := hS.lt
  have l1 := hT.lt
  have s2 := h2.b.size
  have s3 := h3.b.size
  have s4 := h4.b.size
  have s5 := h5.b.size
  have s6 := h6.b.size
  have e0 : BT.io (.mk [] []) = [] := by rw [BT.io_mk]; rfl
  refine ⟨.inl ⟨rfl, rfl⟩, (cell_of_heap hB 0).trans rfl, (cell_of_heap hB 1).trans rfl, ⟨A0, c0, r0, _, ((hS.since (h2.trans (h3.trans (h4.trans (h5.trans h6))))).mono (fun k hk => ⟨hk.2.2, by have := hk.2.1; omega, by have := hk.2.1; omega⟩) (fun h => h.1 rfl)), e0⟩, ⟨A1, c1, r1, _, ((hT.since (h3.trans (h4.trans (h5.trans h6)))).mono (fun k hk => ⟨by have := hk.1; omega, hk.2.2, by have := hk.2.1; omega⟩) (fun h => h.2.1 rfl)), e0⟩, ⟨A2, c2, none, 0, ?_⟩, ⟨A3, c3, none, 0, ?_⟩, by omega, by omega, by omega, fun j => free_of_heap hB j, by simp [Up], by simp [Up]⟩
  · exact ⟨(cell_of_heap hB 2).trans rfl, (cell_of_heap hB 3).trans rfl, k2, Nat.le_refl _, Kd.F_mono (Kd.F_below (Kd.F_bound hF) (h4.trans (h5.trans h6)).b) (fun k hk => ⟨by have := hk.1; omega, by have := hk.1; omega, by have := hk.2; omega⟩), Kd.F_nil KT _ _, hS.rto, by simp, by simp, free_of_heap hB 3⟩
  · exact ⟨(cell_of_heap hB 4).trans rfl, (cell_of_heap hB 5).trans rfl, k3, Nat.le_refl _, Kd.F_mono (Kd.F_below (Kd.F_bound hG) h6.b) (fun k hk => ⟨by have := hk.1; omega, by have := hk.1; omega, by have := hk.2; omega⟩), Kd.F_nil KT _ _, hT.rto, by simp, by simp, free_of_heap hB 5⟩

set_option maxHeartbeats 4000000 in
set_option maxRecDepth 100000 in
theorem begun_nn (W : World) (A0 : Option Addr) (c0 : Nat) (a : Tp) (h0 : Sl W A0 c0 a) (A1 : Option Addr) (c1 : Nat) (b : Tp) (h1 : Sl W A1 c1 b) (n0 : a.length ≤ 9223372036854775806) (n1 : b.length ≤ 9223372036854775806) (ra : ¬ Rt a) (rb : ¬ Rt b) :
    Calls Try.prog 32 #[.slice A0 a.length c0, .slice A1 b.length c1] W (BegunR W) := by
  have hN1 := new_no W A0 c0 a h0 ra
  have H0 := Aside0.mk h0
  have H1 := Aside0.mk h1
  have HR := Aside0.mk (And.intro ra rb)
  have HN := Aside0.mk (And.intro n0 n1)
  clear h0 h1 ra rb n0 n1
  go_enter Try.func32, Try.ntmps32
  go_wp2_with (first
    | (go_at_call 16; refine hN1.mono ?_; clear hN1; rintro e w1 ⟨rfl, hb1⟩; have HB1 := Aside0.mk (Since.mk hb1); have SW1 := Aside0.mk HB1.out; clear hb1; have hN2 := new_no w1 A1 c1 b (SW1.out.sl H1.out) HR.out.2)
    | (go_at_call 16; refine hN2.mono ?_; clear hN2; rintro e w2 ⟨rfl, hb2⟩; have HB2 := Aside0.mk (Since.mk hb2); have SW2 := Aside0.mk (SW1.out.trans HB2.out); clear hb2; have hN3 := rnew_no w2 A0 c0 a (SW2.out.sl H0.out) HN.out.1 HR.out.1)
    | (go_at_call 26; refine hN3.mono ?_; clear hN3; rintro e w3 ⟨rfl, hb3⟩; have HB3 := Aside0.mk (Since.mk hb3); have SW3 := Aside0.mk ((SW2.out.trans HB3.out).alloc (.cells #[.slice none 0 0, .slice none 0 0] 45)); clear hb3; have hN4 := rnew_no (w3.alloc (.cells #[.slice none 0 0, .slice none 0 0] 45)) A1 c1 b (SW3.out.sl H1.out) HN.out.2 HR.out.2; have hx3 := heap_alloc_new w3 (.cells #[.slice none 0 0, .slice none 0 0] 45); have HX3 := Aside0.mk hx3; clear hx3)
    | (go_at_call 26; refine hN4.mono ?_; clear hN4; rintro e w4 ⟨rfl, hb4⟩; have HB4 := Aside0.mk (Since.mk hb4); have SW4 := Aside0.mk ((SW3.out.trans HB4.out).alloc (.cells #[.slice none 0 0, .slice none 0 0] 45)); clear hb4))
  go_ret2
  exact ⟨SW4.out, .inl rfl⟩

set_option maxHeartbeats 4000000 in
set_option maxRecDepth 100000 in
theorem begun_ny (W : World) (A0 : Option Addr) (c0 : Nat) (a : Tp) (h0 : Sl W A0 c0 a) (A1 : Option Addr) (c1 : Nat) (b : Tp) (h1 : Sl W A1 c1 b) (n0 : a.length ≤ 9223372036854775806) (n1 : b.length ≤ 9223372036854775806) (ra : ¬ Rt a) (rb : Rt b) :
    Calls Try.prog 32 #[.slice A0 a.length c0, .slice A1 b.length c1] W (BegunR W) := by
  have hN1 := new_no W A0 c0 a h0 ra
  have H0 := Aside0.mk h0
  have H1 := Aside0.mk h1
  have HR := Aside0.mk (And.intro ra rb)
  have HN := Aside0.mk (And.intro n0 n1)
  clear h0 h1 ra rb n0 n1
  go_enter Try.func32, Try.ntmps32
  go_wp2_with (first
    | (go_at_call 16; refine hN1.mono ?_; clear hN1; rintro e w1 ⟨rfl, hb1⟩; have HB1 := Aside0.mk (Since.mk hb1); have SW1 := Aside0.mk HB1.out; clear hb1; have hN2 := new_yes w1 A1 c1 b (SW1.out.sl H1.out) HR.out.2)
    | (go_at_call 16; refine hN2.mono ?_; clear hN2; rintro e w2 ⟨hb2, bs2, As2, cs2, rt2, rfl, hbs2, hS2⟩; have HT2 := Aside0.mk (And.intro hbs2 hS2); clear hbs2 hS2; have HB2 := Aside0.mk (Since.mk hb2); have SW2 := Aside0.mk (SW1.out.trans HB2.out); clear hb2; have hN3 := rnew_no w2 A0 c0 a (SW2.out.sl H0.out) HN.out.1 HR.out.1)
    | (go_at_call 26; refine hN3.mono ?_; clear hN3; rintro e w3 ⟨rfl, hb3⟩; have HB3 := Aside0.mk (Since.mk hb3); have SW3 := Aside0.mk ((SW2.out.trans HB3.out).alloc (.cells #[.slice none 0 0, .slice none 0 0] 45)); clear hb3; have hN4 := rnew_yes (w3.alloc (.cells #[.slice none 0 0, .slice none 0 0] 45)) A1 c1 b (SW3.out.sl H1.out) HR.out.2; have hx3 := heap_alloc_new w3 (.cells #[.slice none 0 0, .slice none 0 0] 45); have HX3 := Aside0.mk hx3; clear hx3)
    | (go_at_call 26; refine hN4.mono ?_; clear hN4; rintro e w4 ⟨Ar4, cr4, rfl, hc4, hF4, hb4⟩; have HT4 := Aside0.mk (And.intro hc4 hF4); clear hc4 hF4; have HB4 := Aside0.mk (Since.mk hb4); have SW4 := Aside0.mk ((SW3.out.trans HB4.out).alloc (.cells #[.slice Ar4 b.length cr4, .slice none 0 0] 45)); clear hb4))
  go_ret2
  exact ⟨SW4.out, .inl rfl⟩

set_option maxHeartbeats 4000000 in
set_option maxRecDepth 100000 in
theorem begun_yn (W : World) (A0 : Option Addr) (c0 : Nat) (a : Tp) (h0 : Sl W A0 c0 a) (A1 : Option Addr) (c1 : Nat) (b : Tp) (h1 : Sl W A1 c1 b) (n0 : a.length ≤ 9223372036854775806) (n1 : b.length ≤ 9223372036854775806) (ra : Rt a) (rb : ¬ Rt b) :
    Calls Try.prog 32 #[.slice A0 a.length c0, .slice A1 b.length c1] W (BegunR W) := by
  have hN1 := new_yes W A0 c0 a h0 ra
  have H0 := Aside0.mk h0
  have H1 := Aside0.mk h1
  have HR := Aside0.mk (And.intro ra rb)
  have HN := Aside0.mk (And.intro n0 n1)
  clear h0 h1 ra rb n0 n1
  go_enter Try.func32, Try.ntmps32
  go_wp2_with (first
    | (go_at_call 16; refine hN1.mono ?_; clear hN1; rintro e w1 ⟨hb1, bs1, As1, cs1, rt1, rfl, hbs1, hS1⟩; have HT1 := Aside0.mk (And.intro hbs1 hS1); clear hbs1 hS1; have HB1 := Aside0.mk (Since.mk hb1); have SW1 := Aside0.mk HB1.out; clear hb1; have hN2 := new_no w1 A1 c1 b (SW1.out.sl H1.out) HR.out.2)
    | (go_at_call 16; refine hN2.mono ?_; clear hN2; rintro e w2 ⟨rfl, hb2⟩; have HB2 := Aside0.mk (Since.mk hb2); have SW2 := Aside0.mk (SW1.out.trans HB2.out); clear hb2; have hN3 := rnew_yes w2 A0 c0 a (SW2.out.sl H0.out) HR.out.1)
    | (go_at_call 26; refine hN3.mono ?_; clear hN3; rintro e w3 ⟨Ar3, cr3, rfl, hc3, hF3, hb3⟩; have HT3 := Aside0.mk (And.intro hc3 hF3); clear hc3 hF3; have HB3 := Aside0.mk (Since.mk hb3); have SW3 := Aside0.mk ((SW2.out.trans HB3.out).alloc (.cells #[.slice Ar3 a.length cr3, .slice none 0 0] 45)); clear hb3; have hN4 := rnew_no (w3.alloc (.cells #[.slice Ar3 a.length cr3, .slice none 0 0] 45)) A1 c1 b (SW3.out.sl H1.out) HN.out.2 HR.out.2; have hx3 := heap_alloc_new w3 (.cells #[.slice Ar3 a.length cr3, .slice none 0 0] 45); have HX3 := Aside0.mk hx3; clear hx3)
    | (go_at_call 26; refine hN4.mono ?_; clear hN4; rintro e w4 ⟨rfl, hb4⟩; have HB4 := Aside0.mk (Since.mk hb4); have SW4 := Aside0.mk ((SW3.out.trans HB4.out).alloc (.cells #[.slice none 0 0, .slice none 0 0] 45)); clear hb4))
  go_ret2
  exact ⟨SW4.out, .inl rfl⟩

set_option maxHeartbeats 4000000 in
set_option maxRecDepth 100000 in
theorem begun_yy (W : World) (A0 : Option Addr) (c0 : Nat) (a : Tp) (h0 : Sl W A0 c0 a) (A1 : Option Addr) (c1 : Nat) (b : Tp) (h1 : Sl W A1 c1 b) (n0 : a.length ≤ 9223372036854775806) (n1 : b.length ≤ 9223372036854775806) (ra : Rt a) (rb : Rt b) :
    Calls Try.prog 32 #[.slice A0 a.length c0, .slice A1 b.length c1] W (BegunR W) := by
  have hN1 := new_yes W A0 c0 a h0 ra
  have H0 := Aside0.mk h0
  have H1 := Aside0.mk h1
  have HR := Aside0.mk (And.intro ra rb)
  have HN := Aside0.mk (And.intro n0 n1)
  clear h0 h1 ra rb n0 n1
  go_enter Try.func32, Try.ntmps32
  go_wp2_with (first
    | (go_at_call 16; refine hN1.mono ?_; clear hN1; rintro e w1 ⟨hb1, bs1, As1, cs1, rt1, rfl, hbs1, hS1⟩; have HT1 := Aside0.mk (And.intro hbs1 hS1); clear hbs1 hS1; have HB1 := Aside0.mk (Since.mk hb1); have SW1 := Aside0.mk HB1.out; clear hb1; have hN2 := new_yes w1 A1 c1 b (SW1.out.sl H1.out) HR.out.2)
    | (go_at_call 16; refine hN2.mono ?_; clear hN2; rintro e w2 ⟨hb2, bs2, As2, cs2, rt2, rfl, hbs2, hS2⟩; have HT2 := Aside0.mk (And.intro hbs2 hS2); clear hbs2 hS2; have HB2 := Aside0.mk (Since.mk hb2); have SW2 := Aside0.mk (SW1.out.trans HB2.out); clear hb2; have hN3 := rnew_yes w2 A0 c0 a (SW2.out.sl H0.out) HR.out.1)
    | (go_at_call 26; refine hN3.mono ?_; clear hN3; rintro e w3 ⟨Ar3, cr3, rfl, hc3, hF3, hb3⟩; have HT3 := Aside0.mk (And.intro hc3 hF3); clear hc3 hF3; have HB3 := Aside0.mk (Since.mk hb3); have SW3 := Aside0.mk ((SW2.out.trans HB3.out).alloc (.cells #[.slice Ar3 a.length cr3, .slice none 0 0] 45)); clear hb3; have hN4 := rnew_yes (w3.alloc (.cells #[.slice Ar3 a.length cr3, .slice none 0 0] 45)) A1 c1 b (SW3.out.sl H1.out) HR.out.2; have hx3 := heap_alloc_new w3 (.cells #[.slice Ar3 a.length cr3, .slice none 0 0] 45); have HX3 := Aside0.mk hx3; clear hx3)
    | (go_at_call 26; refine hN4.mono ?_; clear hN4; rintro e w4 ⟨Ar4, cr4, rfl, hc4, hF4, hb4⟩; have HT4 := Aside0.mk (And.intro hc4 hF4); clear hc4 hF4; have HB4 := Aside0.mk (Since.mk hb4); have SW4 := Aside0.mk ((SW3.out.trans HB4.out).alloc (.cells #[.slice Ar4 b.length cr4, .slice none 0 0] 45)); clear hb4; have hy3 := blk HB4.out.b HX3.out; have hz3 := blk (((Since.refl w4).alloc (.cells #[.slice Ar4 b.length cr4, .slice none 0 0] 45)).b) hy3; have hz4 := heap_alloc_new w4 (.cells #[.slice Ar4 b.length cr4, .slice none 0 0] 45); obtain ⟨V, hV⟩ : ∃ V, V = w4.alloc (.cells #[.slice Ar4 b.length cr4, .slice none 0 0] 45) := ⟨_, rfl⟩; have HV := Aside0.mk hV; rw [← hV] at hz3 hz4; have a30 : V.cell? ⟨w3.heap.size, 0, none⟩ = some (.slice Ar3 a.length cr3) := (cell_of_heap hz3 0).trans rfl; have a31 : V.cell? ⟨w3.heap.size, 1, none⟩ = some (.slice none 0 0) := (cell_of_heap hz3 1).trans rfl; have a40 : V.cell? ⟨w4.heap.size, 0, none⟩ = some (.slice Ar4 b.length cr4) := (cell_of_heap hz4 0).trans rfl; have a41 : V.cell? ⟨w4.heap.size, 1, none⟩ = some (.slice none 0 0) := (cell_of_heap hz4 1).trans rfl; rw [hV] at a30 a31 a40 a41; clear hy3 hz3 hz4 hV))
  go_ret2
  have hB := heap_alloc_new (w4.alloc (.cells #[.slice Ar4 b.length cr4, .slice none 0 0] 45)) (.cells #[.pointer (some ⟨bs1, 0, none⟩), .pointer (some ⟨bs2, 0, none⟩), .slice Ar3 a.length cr3, .slice none 0 0, .slice Ar4 b.length cr4, .slice none 0 0] 99)
  rw [World.size_alloc] at hB
  have hd := begun_duo HB1.out HT1.out.1 HT1.out.2 HB2.out HT2.out.1 HT2.out.2 HB3.out HT3.out.1 HT3.out.2 ((Since.refl w3).alloc _) HB4.out HT4.out.1 HT4.out.2 (((Since.refl w4).alloc _).alloc _) (by omega) hB
  have z1 := HB1.out.b.size
  have z2 := HB2.out.b.size
  have z3 := HB3.out.b.size
  have z4 := HB4.out.b.size
  have z5 := HT1.out.1
  have z6 := HT2.out.1
  rw [World.size_alloc] at z4
  exact ⟨SW4.out.alloc _, .inr ⟨_, bs1, bs2, _, _, rfl, by omega, z5, by omega, hd⟩⟩

theorem begun_calls (W : World) (A0 : Option Addr) (c0 : Nat) (a : Tp) (h0 : Sl W A0 c0 a) (A1 : Option Addr) (c1 : Nat) (b : Tp) (h1 : Sl W A1 c1 b) (n0 : a.length ≤ 9223372036854775806) (n1 : b.length ≤ 9223372036854775806) :
    Calls Try.prog 32 #[.slice A0 a.length c0, .slice A1 b.length c1] W (BegunR W) := by
  by_cases ra : Rt a
  · by_cases rb : Rt b
    · exact begun_yy W A0 c0 a h0 A1 c1 b h1 n0 n1 ra rb
    · exact begun_yn W A0 c0 a h0 A1 c1 b h1 n0 n1 ra rb
  · by_cases rb : Rt b
    · exact begun_ny W A0 c0 a h0 A1 c1 b h1 n0 n1 ra rb
    · exact begun_nn W A0 c0 a h0 A1 c1 b h1 n0 n1 ra rb

end Go.Proofs.Ytcmllllbmgcnlaa.Tup

namespace Go.Proofs.Ytcmllllbmgcnlaa.Tup
open Go.RowKit Go.Lib Go.Shelf Go.Proofs.Ytcmllllbmgcnlaa.F Go.Proofs.YtcmllllbmgcnlaaW.PrintWords Go.Proofs.YtcmllllbmgcnlaaW.PrintLast Go.Proofs.YtcmllllbmgcnlaaW.PrintMore
set_option linter.unusedVariables false
set_option linter.unusedSimpArgs false

theorem and_one (x : Int) : bits BinOp.and IntKind.i64 x 1 = 0 ∨ bits BinOp.and IntKind.i64 x 1 = 1 := by
  have e : bits BinOp.and IntKind.i64 x 1 = (((BitVec.ofInt 64 x).toNat % 2 : Nat) : Int) := by
    show IntKind.i64.wrap ((BitVec.ofInt 64 x &&& BitVec.ofInt 64 1).toNat : Int) = _
    rw [BitVec.toNat_and, show (BitVec.ofInt 64 1).toNat = 1 from rfl, Nat.and_one_is_mod, IntKind.wrap_i64]
    omega
  rw [e]
  omega
theorem kind8 (K : Int) : 0 ≤ Int.tmod (wrap64 (Int.tmod K 8 + 8)) 8 ∧ Int.tmod (wrap64 (Int.tmod K 8 + 8)) 8 ≤ 7 := by
  have h1 := Int.lt_tmod_of_pos K (show (0 : Int) < 8 by decide)
  have h2 := Int.tmod_lt_of_pos K (show (0 : Int) < 8 by decide)
  have e : wrap64 (Int.tmod K 8 + 8) = Int.tmod K 8 + 8 := by unfold wrap64; omega
  rw [e, Int.tmod_eq_emod_of_nonneg (by omega)]
  omega
theorem DoesR.symm {W : World} {bw i i' bs bo : Nat} {e : Ending} {w' : World} (h : DoesR W bw i i' bs bo e w') : DoesR W bw i' i bo bs e w' := by
  obtain ⟨h1, ⟨X, Y, h2⟩, h3⟩ := h
  exact ⟨h1, ⟨Y, X, h2.symm⟩, h3.symm⟩
theorem does_one (W : World) (bw i i' bs bo : Nat) {X Y : ST} (h : Duo W bw i i' bs bo X Y X Y) (K On k : Int) (At : Option Addr) (ct : Nat) (t : Tp) (hk : Key W bs bo bw At ct t) (hOn : bits BinOp.and IntKind.i64 On 1 = (i : Int)) :
    Calls Try.prog 33 #[.pointer (some ⟨bw, 0, none⟩), .agg #[.int .i64 K, .int .i64 On, .int .i64 k, .slice At t.length ct]] W (DoesR W bw i i' bs bo) := by
  have hr := kind8 K
  obtain ⟨r, e⟩ : ∃ r, r = Int.tmod (wrap64 (Int.tmod K 8 + 8)) 8 := ⟨_, rfl⟩
  rw [← e] at hr
  rcases (by omega : r = 0 ∨ r = 1 ∨ r = 2 ∨ r = 3 ∨ r = 4 ∨ r = 5 ∨ r = 6 ∨ r = 7) with h0 | h0 | h0 | h0 | h0 | h0 | h0 | h0
  · exact does_ins W bw i i' bs bo r h K On k At ct t hk hOn e.symm (.inl h0)
  · exact does_has W bw i i' bs bo h K On k At ct t hk hOn (e.symm.trans h0)
  · exact does_range W bw i i' bs bo h K On k At ct t hk hOn (e.symm.trans h0)
  · exact does_from W bw i i' bs bo h K On k At ct t hk hOn (e.symm.trans h0)
  · by_cases hl : X.1.length = Y.1.length
    · exact does_merge W bw i i' bs bo h K On k At ct t hk hOn (e.symm.trans h0) hl
    · exact does_mergeW W bw i i' bs bo h K On k At ct t hk hOn (e.symm.trans h0) hl
  · by_cases hl : X.1.length = Y.1.length
    · exact does_swap W bw i i' bs bo h K On k At ct t hk hOn (e.symm.trans h0) hl
    · exact does_swapW W bw i i' bs bo h K On k At ct t hk hOn (e.symm.trans h0) hl
  · exact does_clear W bw i i' bs bo h K On k At ct t hk hOn (e.symm.trans h0)
  · exact does_ins W bw i i' bs bo r h K On k At ct t hk hOn e.symm (.inr h0)
theorem does_calls (W : World) (bw b0 b1 : Nat) {X Y : ST} (h : Duo W bw 0 1 b0 b1 X Y X Y) (K On k : Int) (At : Option Addr) (ct : Nat) (t : Tp) (hk : Key W b0 b1 bw At ct t) :
    Calls Try.prog 33 #[.pointer (some ⟨bw, 0, none⟩), .agg #[.int .i64 K, .int .i64 On, .int .i64 k, .slice At t.length ct]] W (DoesR W bw 0 1 b0 b1) := by
  rcases and_one On with h1 | h1
  · exact does_one W bw 0 1 b0 b1 h K On k At ct t hk h1
  · exact (does_one W bw 1 0 b1 b0 h.symm K On k At ct t hk.symm h1).mono fun _ _ => DoesR.symm

/-- One call of a script: its four cells. -/
structure ActE (W : World) (A : Option Addr) (i : Nat) (K On k : Int) (At : Option Addr) (ct : Nat) (t : Tp) : Prop where
  ex : ∃ ad, A = some ad ∧ W.cell? (ad.add (i * 4)) = some (.int .i64 K) ∧ W.cell? ⟨(ad.add (i * 4)).block, (ad.add (i * 4)).off + 1, none⟩ = some (.int .i64 On) ∧ W.cell? ⟨(ad.add (i * 4)).block, (ad.add (i * 4)).off + 2, none⟩ = some (.int .i64 k) ∧ W.cell? ⟨(ad.add (i * 4)).block, (ad.add (i * 4)).off + 3, none⟩ = some (.slice At t.length ct)
  sl : Sl W At ct t
  z : t.length * 8 ≤ 140737488351232
/-- A script that is read. -/
def Acts (W : World) (A : Option Addr) (n : Nat) : Prop := ∀ i, i < n → ∃ K On k At ct t, ActE W A i K On k At ct t

theorem Kept3.outer {b0 b1 bw : Nat} {W wr w' : World} (hs : Since W wr) (hk : Kept3 b0 b1 bw wr w') (h : W.heap.size ≤ bw ∧ W.heap.size ≤ b0 ∧ W.heap.size ≤ b1) : Since W w' :=
  ⟨⟨hk.os.trans hs.b.os, hk.tape.trans hs.b.tape, hk.output.trans hs.b.output, Nat.le_trans hs.b.size hk.size, fun k hl => (hk.heap k (Nat.lt_of_lt_of_le hl hs.b.size) (by omega) (by omega) (by omega)).trans (hs.b.block k hl)⟩⟩

set_option maxHeartbeats 4000000 in
set_option maxRecDepth 100000 in
theorem plays_walk (W : World) (A0 : Option Addr) (c0 : Nat) (a : Tp) (h0 : Sl W A0 c0 a) (A1 : Option Addr) (c1 : Nat) (b : Tp) (h1 : Sl W A1 c1 b) (n0 : a.length ≤ 9223372036854775806) (n1 : b.length ≤ 9223372036854775806) (A2 : Option Addr) (n c2 : Nat) (hA : Acts W A2 n) (hn : n ≤ 140737488355328) :
    Calls Try.prog 8 #[.slice A0 a.length c0, .slice A1 b.length c1, .slice A2 n c2] W fun e w' => e = .returned (.bool true) ∧ Since W w' := by
  have hB := begun_calls W A0 c0 a h0 A1 c1 b h1 n0 n1
  have HA := Aside0.mk hA
  clear h0 h1 n0 n1 hA
  go_enter Try.func8, Try.ntmps8
  go_wp2_with (first
    | (go_at_call 32; refine hB.mono ?_; clear hB; rintro e w1 ⟨hs1, rfl | ⟨bw, b0, b1, X, Y, rfl, hbw, hb0, hb1, hD⟩⟩)
    | (go_at_call 17; refine (alive_calls _).mono ?_; rintro e w2 ⟨rfl, hb2⟩; have HS2 := Aside0.mk (Since.trans hs1 ⟨hb2⟩)))
  · go_ret
    exact ⟨rfl, HS2.out⟩
  · have HD := Aside0.mk (hD.since ⟨hb2⟩)
    have HP := Aside0.mk (And.intro hbw (And.intro hb0 hb1))
    clear hs1 hbw hb0 hb1 hD hb2
    go_loopg [27] n (fun gk v27 wr => ∃ i : Nat, v27 = .int .i64 (i : Int) ∧ Aside0 (i + gk = n) ∧ Aside0 (∃ X Y, Duo wr bw 0 1 b0 b1 X Y X Y) ∧ Aside0 (Since W wr))
    case atStart => exact ⟨0, rfl, ⟨by omega⟩, ⟨_, _, HD.out⟩, HS2⟩
    case round =>
      obtain ⟨i, rfl, HI, HDD, HS⟩ := hrel
      by_cases hi : i < n
      · have hii : (i : Int) < (n : Int) := by omega
        have hid : decide (i < n) = true := decide_eq_true hi
        obtain ⟨K, On, k, At, ct, t, ⟨⟨ad, rfl, cc0, cc1, cc2, cc3⟩, sl, z⟩⟩ := HA.out i hi
        have c0' := pw_cell_below HS.out.b cc0
        have c1' := pw_cell_below HS.out.b cc1
        have c2' := pw_cell_below HS.out.b cc2
        have c3' := pw_cell_below HS.out.b cc3
        obtain ⟨X', Y', hD⟩ := HDD.out
        have HKey := Aside0.mk (show Key W b0 b1 bw At ct t from ⟨Kd.F_mono (Kd.C_F (Kd.heap_int .i64) sl.C) (fun q hq => ⟨by have := HP.out; omega, by have := HP.out; omega, by have := HP.out; omega⟩), sl.le, z⟩)
        have hs1 : Since wr (wr.alloc (.cells #[.int .i64 K, .int .i64 On, .int .i64 k, .slice At t.length ct] 60)) := (Since.refl wr).alloc _
        have hDo := Aside0.mk (does_calls _ bw b0 b1 (hD.since hs1) K On k At ct t (HKey.out.kept (Kept3.since (HS.out.trans hs1))))
        have HS1 := Aside0.mk (HS.out.trans hs1)
        clear cc0 cc1 cc2 cc3 sl z hD hs1
        go_wp2_with (first
          | (go_at_call 33; refine hDo.out.mono ?_; rintro e w6 ⟨rfl, hd6, hk6⟩; have HD6 := Aside0.mk hd6; have HK6 := Aside0.mk hk6; clear hd6 hk6))
        obtain ⟨k2, hk2⟩ : ∃ k2, k2 = gk - 1 := ⟨_, rfl⟩
        go_roundg k2
        case measure => have := HI.out; omega
        case rel => exact ⟨i + 1, by go_num, ⟨by have := HI.out; omega⟩, HD6, ⟨Kept3.outer HS1.out HK6.out HP.out⟩⟩
      · have hii : ¬ (i : Int) < (n : Int) := by omega
        have hid : decide (i < n) = false := decide_eq_false hi
        obtain ⟨X', Y', hD⟩ := HDD.out
        have hSt := stands_calls wr bw b0 b1 hD
        clear hD
        go_wp2_with (first
          | (go_at_call 34; refine hSt.mono ?_; clear hSt; rintro e w6 ⟨rfl, hs6⟩; have HS6 := Aside0.mk (HS.out.trans hs6); clear hs6))
        go_ret
        exact ⟨rfl, HS6.out⟩

end Go.Proofs.Ytcmllllbmgcnlaa.Tup

namespace Go.Proofs.Ytcmllllbmgcnlaa.Tup
open Go.ChangeShapes Go.WideShapes Go.ChangeAt Go.RowKit Go.Joins Go.Proofs.Ytcmllllbmgcnlaa.F Go.Proofs.YtcmllllbmgcnlaaW Go.Proofs.YtcmllllbmgcnlaaW.PrintWords
set_option linter.unusedVariables false
set_option linter.unusedSimpArgs false

section
variable {H : Type} {enc : TypeId × Value → H} {W : World} {base b0 : Nat} {held : Bool}
set_option maxRecDepth 100000 in
theorem open_acts {v : Value} {d : DataW H} {p : List MemPlace} {ts : List TypeId} {ds : List (DataW H)} {j : Nat} (hsz : (DataW.weightsEach Try.prog ts ds).all (· ≤ reachBytes) = true) (ht : ts[j]? = some 55) (hd : ds[j]? = some d) (hv : Value.okWide Try.prog W .any b0 55 v) (h : DataW.Trod enc Try.prog W base (fun _ => true) held 55 v d p) :
    ∃ A n c, v = .slice A n c ∧ Acts W A n ∧ n ≤ 140737488355328 := by
  obtain ⟨a, len, cap, rfl⟩ := okWide_slice Try.underlying55 hv
  obtain ⟨fuel, hf⟩ := h
  have hz : ∀ x ∈ d.weights Try.prog 55, x ≤ reachBytes := fun x hx => of_decide_eq_true ((List.all_eq_true.1 hsz) x (DataW.weights_mem_each ht hd x hx))
  rcases Go.Deep.open_slice Try.underlying55 hf with ⟨hcs, _⟩ | ⟨a', l', c', m, n, D, Pl, hcs, _, hl, hm, hmm, hdd, hx⟩
  · simp [Value.cells] at hcs
    obtain ⟨rfl, rfl, rfl⟩ := hcs
    exact ⟨none, 0, 0, rfl, fun i hi => absurd hi (Nat.not_lt_zero _), by omega⟩
  · simp [Value.cells] at hcs
    obtain ⟨rfl, rfl, rfl⟩ := hcs
    simp only [if_true] at hmm
    subst hmm
    have hd' : d = .slice ((List.range len).map D) ((List.range (m - len)).map fun j => D (len + j)) := by
      injection hdd
    have hc4 : Try.prog.cellsOf 60 = 4 := by kernel_rfl
    have hc3 : Try.prog.cellsOf 3 = 1 := by kernel_rfl
    have hc22 : Try.prog.cellsOf 22 = 1 := by kernel_rfl
    have hb60 : Try.prog.bytesOf 60 = 48 := by kernel_rfl
    rw [hd', DataW.weights, Try.underlying55] at hz
    refine ⟨some a', len, m, rfl, fun i hi => ?_, ?_⟩
    · obtain ⟨cs, h1, h2⟩ := hx i (by omega)
      rw [hc4] at h1
      obtain ⟨_, hlen, hcell⟩ := World.cells?_some h1
      obtain ⟨y0, y1, y2, y3, n', hy, _, e0, e1, e2, e3⟩ := trod_struct4 Try.underlying60 h2
      match cs, hlen with
      | [v0, v1, v2, v3], _ =>
        simp only [hc3, hc22, List.drop_zero, List.drop_succ_cons, List.take_succ_cons, List.take_zero] at e0 e1 e2 e3
        obtain ⟨K, hk0, _, _⟩ := DataW.trod_int Try.underlying3 e0
        obtain ⟨On, hk1, _, _⟩ := DataW.trod_int Try.underlying3 e1
        obtain ⟨k, hk2, _, _⟩ := DataW.trod_int Try.underlying3 e2
        obtain ⟨At, lt, ct, hk3⟩ := slice_form Try.underlying22 e3
        simp only [List.cons.injEq, and_true] at hk0 hk1 hk2 hk3
        subst hk0 hk1 hk2 hk3
        obtain ⟨t, rfl, hs, _⟩ := sl_of_trod e3
        have hw : D i = (DataW.agg [y0.1, y1.1, y2.1, y3.1]) := by injection hy
        refine ⟨K, On, k, At, ct, t, ⟨a', rfl, ?_, ?_, ?_, ?_⟩, hs, ?_⟩
        · simpa [Addr.add] using hcell 0 (by omega)
        · simpa [Addr.add] using hcell 1 (by omega)
        · simpa [Addr.add] using hcell 2 (by omega)
        · simpa [Addr.add] using hcell 3 (by omega)
        · refine sl_sized (d := y3.1) (ps := y3.2) e3 fun x hx' => hz x ?_
          refine List.mem_cons.2 (.inr (List.mem_append.2 (.inl (weights_all (List.mem_map.2 ⟨i, List.mem_range.2 hi, rfl⟩) x ?_))))
          rw [hw, DataW.weights, Try.underlying60]
          exact DataW.weights_mem_each (j := 3) rfl rfl x hx'
    · have := hz _ (List.mem_cons_self)
      rw [hb60] at this
      simp at this
      unfold reachBytes at this
      omega
end
theorem plays_law_calls {W : World} (A0 : Option Addr) (c0 : Nat) (a : Tp) (h0 : Sl W A0 c0 a) (hw0 : ∀ x ∈ a, (Lit.int .i64 x).wf = true) (y0 : a.length * 8 ≤ 140737488351232) (A1 : Option Addr) (c1 : Nat) (b : Tp) (h1 : Sl W A1 c1 b) (hw1 : ∀ x ∈ b, (Lit.int .i64 x).wf = true) (y1 : b.length * 8 ≤ 140737488351232) (A2 : Option Addr) (n c2 : Nat) (hA : Acts W A2 n) (hn : n ≤ 140737488355328) (W' : World) (e : W' = W) :
    Calls Try.prog 8 #[.slice A0 a.length c0, .slice A1 b.length c1, .slice A2 n c2] W' fun e w' => e = .returned (.bool true) ∧ Below W.heap.size W w' := by
  subst e
  exact (plays_walk W' A0 c0 a h0 A1 c1 b h1 (by omega) (by omega) A2 n c2 hA hn).mono fun e w' h => ⟨h.1, h.2.b⟩
end Go.Proofs.Ytcmllllbmgcnlaa.Tup

namespace Go.Proofs.Ytcmllllbmgcnlaa.btreePlays
open Go.ChangeShapes Go.WideShapes Go.ChangeAt Go.RowKit Go.Proofs.YtcmllllbmgcnlaaW Go.Proofs.Ytcmllllbmgcnlaa.Tup
open Go.ChangeMaps (open_string shut_string)
set_option linter.unusedVariables false
theorem own : ownKnob Try.prog.godebug = none := by kernel_rfl
theorem laidOut : laidOutB Try.prog = true := by kernel_rfl
set_option maxRecDepth 100000 in
theorem lifted (os : Os) (started : os.Started) (H : Type) (enc : TypeId × Value → H) :
    ReturnsInHanded {} Try.checked os 8 .any (Rows.btreePlaysSpec.pre6 enc Try.prog Try.f8 Rows.btreePlaysRow.domain false) (Rows.btreePlaysSpec.post enc Try.prog Try.f8 false true false false) := by
  refine returnsInHanded_of_change_sized (C := Try.checked) own started (by kernel_rfl) Try.func8
    (ChangeSpec.witness6 (enc := enc) (C := Try.checked) false ⟨#[], #[.slice none 0 0, .slice none 0 0, .slice none 0 0], []⟩ 8 (by kernel_rfl) (by kernel_rfl) (by kernel_rfl) (by kernel_rfl)) ?_
  intro W base args ds gs before hval0 hW hcnd hsz0 _
  have hsz : (DataW.weightsEach Try.prog (Try.f8.params.toList ++ Rows.btreePlaysSpec.plain.varTypes Try.prog) (ds ++ gs)).all (· ≤ reachBytes) = true := hsz0
  have hval : ∀ (j : Nat) t v, Try.f8.params[j]? = some t → args[j]? = some v → Value.okWide Try.prog W .any base t v := hval0
  have hW' := hW
  obtain ⟨p, q, hA0, hV, rfl, hfz, hnd⟩ := hW
  have hA : DataW.TrodAll enc Try.prog W 0 (fun _ => true) true Try.f8.params.toList args.toList ds p := hA0
  rw [Try.params8] at hA hval hsz
  obtain ⟨v0, vs0, d0, ds0, p0, q0, hargs, rfl, rfl, h0, r0⟩ := trodAll_cons hA
  obtain ⟨v1, vs1, d1, ds1, p1, q1, rfl, rfl, rfl, h1, r1⟩ := trodAll_cons r0
  obtain ⟨v2, vs2, d2, ds2, p2, q2, rfl, rfl, rfl, h2, r2⟩ := trodAll_cons r1
  obtain ⟨rfl, rfl, rfl⟩ := trodAll_nil r2
  obtain rfl : args = #[v0, v1, v2] := by cases args; simp_all
  obtain ⟨rfl, rfl⟩ := trodVars_none hV
  have k0 := h0
  have lt0 : ∀ x ∈ p0, x.block < W.heap.size := by obtain ⟨m, hm⟩ := k0; exact DataW.trod_lt m _ _ _ hm
  obtain ⟨A0, c0, l0, rfl, s0, f0⟩ := open_sl (hval 0 22 v0 rfl rfl) h0
  have y0 : l0.length * 8 ≤ 140737488351232 := PrintWords.sized_ints hsz (j := 0) (t := 22) rfl rfl Try.underlying22 Try.underlying3 (by kernel_rfl) (by kernel_rfl) k0
  have k1 := h1
  have lt1 : ∀ x ∈ p1, x.block < W.heap.size := by obtain ⟨m, hm⟩ := k1; exact DataW.trod_lt m _ _ _ hm
  obtain ⟨A1, c1, l1, rfl, s1, f1⟩ := open_sl (hval 1 22 v1 rfl rfl) h1
  have y1 : l1.length * 8 ≤ 140737488351232 := PrintWords.sized_ints hsz (j := 1) (t := 22) rfl rfl Try.underlying22 Try.underlying3 (by kernel_rfl) (by kernel_rfl) k1
  have k2 := h2
  have lt2 : ∀ x ∈ p2, x.block < W.heap.size := by obtain ⟨m, hm⟩ := k2; exact DataW.trod_lt m _ _ _ hm
  obtain ⟨A2, l2, c2, rfl, s2, z2⟩ := open_acts hsz (j := 2) rfl rfl (hval 2 55 v2 rfl rfl) h2
  clear hA0 hval0 hsz0 hsz
  refine (plays_law_calls A0 c0 l0 s0 f0 y0 A1 c1 l1 s1 f1 y1 A2 l2 c2 s2 z2 W rfl).mono fun e W' ⟨he, bel⟩ => ?_
  subst he
  exact ⟨_, rfl, _, _, _, [], _, [], hW', trodAll_mk1 (shut_bool Try.underlying4 _), (trodAll_cons_mk (Below.trod laidOut (by kernel_rfl) (of_decide_eq_true (by kernel_rfl)) k0 bel lt0) (trodAll_cons_mk (Below.trod laidOut (by kernel_rfl) (of_decide_eq_true (by kernel_rfl)) k1 bel lt1) (trodAll_cons_mk (Below.trod laidOut (by kernel_rfl) (of_decide_eq_true (by kernel_rfl)) k2 bel lt2) trodAll_mk0))), rfl, bel.frame _, fun h => by cases h⟩
theorem over : Rows.btreePlaysRow.holds Try.pinned (OpenSpec.ofChange Rows.btreePlaysSpec) :=
  OpenClaim.holds_of_wide 8 Try.f8 rfl rfl rfl rfl rfl rfl rfl ⟨rfl, rfl, rfl, rfl, rfl⟩ rfl rfl rfl rfl rfl (by kernel_rfl) Try.func8 (by kernel_rfl)
    (of_decide_eq_true (by kernel_rfl)) (by unfold Func.isWrapper; first | (rw [if_pos (by decide +kernel)]; kernel_rfl) | (rw [if_neg (by decide +kernel)]; exact ⟨rfl, rfl⟩))
    (fun os started H enc _ => lifted os started H enc)
end Go.Proofs.Ytcmllllbmgcnlaa.btreePlays
namespace Go.Proofs.Ytcmllllbmgcnlaa
/-- The statement, under a short name, for the claim. -/
theorem btreePlays_holds : Rows.BtreePlaysSaid := btreePlays.over
#print axioms btreePlays_holds
end Go.Proofs.Ytcmllllbmgcnlaa
