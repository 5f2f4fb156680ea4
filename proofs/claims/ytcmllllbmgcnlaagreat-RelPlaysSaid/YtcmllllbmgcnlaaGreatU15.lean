/- Own texts, joined and cut to what the claim stands on: RlPlain, RlKey, RlMap. -/
import Derived.Deep.OwnRows
import Derived.Deep.LoopGhost
import Derived.Lib.SmallJoins
import Derived.Maps.OwnOps
import Derived.RangeFuncRecord
import Derived.RangeFuncFrom
import Derived.WideKeyRuns
import Derived.ChangeKeysEq
import Derived.Test.YtcmllllbmgcnlaaGreatU9
import Derived.Test.YtcmllllbmgcnlaaGreatU5
import Derived.Test.YtcmllllbmgcnlaaGreatU6
import Derived.Test.YtcmllllbmgcnlaaGreatU7
import Derived.Test.YtcmllllbmgcnlaaGreatU14
import Derived.Test.YtcmllllbmgcnlaaGreatU11
section
namespace Go.Proofs.YtcmllllbmgcnlaaGreat.Rl
open Go.RowKit Go.Deep Go.Proofs.YtcmllllbmgcnlaaGreat.G Go.Proofs.YtcmllllbmgcnlaaGreat.Tup Go.Proofs.YtcmllllbmgcnlaaGreatW.PrintWords Go.Proofs.YtcmllllbmgcnlaaGreatW.PrintLast Go.Proofs.YtcmllllbmgcnlaaGreatW.PrintMore
set_option linter.unusedVariables false
set_option linter.unusedSimpArgs false
set_option maxHeartbeats 4000000 in
set_option maxRecDepth 100000 in
theorem plain_calls (W : World) (n : Nat) (hn : n ≤ 1000) :
  Calls Tryz.prog 36 #[.int .i64 (n : Int)] W fun e w' => e = .returned (.slice (some ⟨W.heap.size, 0, none⟩) n n) ∧ Below W.heap.size W w' ∧ w'.rowIs W.heap.size 3 n (fun i => .int .i64 (i : Int)) := by
 have hmk := run_make_row' (P := Tryz.prog) 23 3 (.int .i64 0) 8 Tryz.underlying23 info3 rfl .i64 .i64 n (by omega) (by omega)
 go_enter Tryz.func36, Tryz.ntmps36
 go_wp2
 have B0 := Aside0.mk (show Below W.heap.size W (W.alloc (.cells (madeCells #[.int .i64 0] n) 3)) from (Below.refl _ W).alloc (Nat.le_refl _) _)
 have R0 := Aside0.mk (World.rowIs_made W (.int .i64 0) n 3)
 obtain ⟨V, hV⟩ : ∃ V, V = W.alloc (.cells (madeCells #[.int .i64 0] n) 3) := ⟨_, rfl⟩
 rw [← hV] at B0 R0 ⊢
 clear hmk hV
 go_loopg [9] n (fun gk v9 wr => ∃ k : Nat, v9 = .int .i64 (k : Int) ∧ Aside0 (k + gk = n) ∧ Aside0 (Below W.heap.size W wr) ∧ Aside0 (wr.rowIs W.heap.size 3 n (fun j => if j < k then .int .i64 (j : Int) else .int .i64 0)))
 case atStart => exact ⟨0, rfl, ⟨by omega⟩, B0, ⟨R0.out.congr fun k _ => by simp⟩⟩
 case round =>
  obtain ⟨k, rfl, HK, HB, HR⟩ := hrel
  by_cases hk : k < n
  ·have hkd : decide (k < n) = true := decide_eq_true hk
   have hki : (k : Int) < (n : Int) := by omega
   have h2 := HR.out.cell hk
   simp only [Nat.lt_irrefl, if_false] at h2
   have h3 := HR.out.frozen k
   have HR1 := Aside0.mk (HR.out.set k (.int .i64 (k : Int)))
   have HB1 := Aside0.mk (show Below W.heap.size W (wr.setCell ⟨W.heap.size, k, none⟩ (.int .i64 (k : Int))) from HB.out.setCell (Nat.le_refl _) _)
   go_wp2
   obtain ⟨g2, hg2⟩ : ∃ g2, g2 = gk - 1 := ⟨_, rfl⟩
   go_roundg g2
   case measure => have := HK.out; omega
   case rel =>
    refine ⟨k + 1, by go_num, ⟨by have := HK.out; omega⟩, HB1, ⟨HR1.out.congr fun j hj => ?_⟩⟩
    by_cases e : j = k
    ·subst e; simp
    ·rw [if_neg e]
     by_cases h : j < k
     ·rw [if_pos h, if_pos (by omega)]
     ·rw [if_neg h, if_neg (by omega)]
  ·have hkd : decide (k < n) = false := decide_eq_false hk
   have hki : ¬ (k : Int) < (n : Int) := by omega
   go_wp2
   go_ret
   exact ⟨rfl, HB.out, HR.out.congr fun j hj => by rw [if_pos (by have := HK.out; omega)]⟩
end Go.Proofs.YtcmllllbmgcnlaaGreat.Rl
end
section
namespace Go.Proofs.YtcmllllbmgcnlaaGreat.Rl
open Go.RowKit Go.Lib Go.Deep Go.Proofs.YtcmllllbmgcnlaaGreat.G Go.Proofs.YtcmllllbmgcnlaaGreat.Tup Go.Proofs.YtcmllllbmgcnlaaGreatW.PrintWords Go.Proofs.YtcmllllbmgcnlaaGreatW.PrintLast Go.Proofs.YtcmllllbmgcnlaaGreatW.PrintMore
set_option linter.unusedVariables false
set_option linter.unusedSimpArgs false
def keyL (t : List Int) : List Int := t ++ List.replicate (8 - t.length) 0
def keyV (t : List Int) : Value := .agg ((keyL t).map (Value.int .i64)).toArray
theorem list8 {α : Type} (l : List α) (h : l.length = 8) : ∃ a b c d e f g k, l = [a, b, c, d, e, f, g, k] := by
 rcases l with _ | ⟨a, _ | ⟨b, _ | ⟨c, _ | ⟨d, _ | ⟨e, _ | ⟨f, _ | ⟨g, _ | ⟨k, _ | ⟨m, r⟩⟩⟩⟩⟩⟩⟩⟩⟩ <;> simp at h
 exact ⟨a, b, c, d, e, f, g, k, rfl⟩
theorem key_splice {w : World} {g : Nat} {t : List Int} {T : TypeId} {x0 x1 x2 x3 x4 x5 x6 x7 : Int} (h : Hid (w.heap[g]? = some (.cells (splice (List.replicate 8 (Value.int .i64 0)) 0 (t.map (Value.int .i64))).toArray T (0, 0)))) (hk : keyL t = [x0, x1, x2, x3, x4, x5, x6, x7]) :
  w.heap[g]? = some (.cells #[.int .i64 x0, .int .i64 x1, .int .i64 x2, .int .i64 x3, .int .i64 x4, .int .i64 x5, .int .i64 x6, .int .i64 x7] T (0, 0)) := by
 have h1 : w.heap[g]? = some (.cells (splice (List.replicate 8 (Value.int .i64 0)) 0 (t.map (Value.int .i64))).toArray T (0, 0)) := h
 have h2 : splice (List.replicate 8 (Value.int .i64 0)) 0 (t.map (Value.int .i64)) = (keyL t).map (Value.int .i64) := by
  unfold splice keyL
  rw [List.take_zero, List.nil_append, List.drop_replicate, List.map_append, List.map_replicate, List.length_map, Nat.zero_add]
 rw [h1, h2, hk]
 rfl
theorem cell_in {w : World} {g : Nat} {cur : Array Value} {t : TypeId} (h : w.heap[g]? = some (.cells cur t (0, 0))) {j : Nat} (hj : j < cur.size) : ∃ v, w.cell? ⟨g, j, none⟩ = some v := ⟨cur[j], (Tup.cell_of_heap h j).trans (Array.getElem?_eq_getElem hj)⟩
theorem set_in {w : World} {g : Nat} {cur : Array Value} {t : TypeId} (h : w.heap[g]? = some (.cells cur t (0, 0))) (j : Nat) (v : Value) : ∃ cur', (w.setCell ⟨g, j, none⟩ v).heap[g]? = some (.cells cur' t (0, 0)) ∧ cur'.size = cur.size := ⟨_, Go.Joins.block_setCell (i := j) h v, by simp⟩
theorem free_in {w : World} {g : Nat} {cur : Array Value} {t : TypeId} (h : w.heap[g]? = some (.cells cur t (0, 0))) (j : Nat) : w.frozen? ⟨g, j, none⟩ = false := by
 simp [World.frozen?, h]
theorem put8 {w : World} {g : Nat} {T : TypeId} (x0 x1 x2 x3 x4 x5 x6 x7 : Int) (h0 : w.heap[g]? = some (.cells #[.int .i64 0, .int .i64 0, .int .i64 0, .int .i64 0, .int .i64 0, .int .i64 0, .int .i64 0, .int .i64 0] T (0, 0))) :
  ((((((((w.setCell ⟨g, 0, none⟩ (.int .i64 x0)).setCell ⟨g, 1, none⟩ (.int .i64 x1)).setCell ⟨g, 2, none⟩ (.int .i64 x2)).setCell ⟨g, 3, none⟩ (.int .i64 x3)).setCell ⟨g, 4, none⟩ (.int .i64 x4)).setCell ⟨g, 5, none⟩ (.int .i64 x5)).setCell ⟨g, 6, none⟩ (.int .i64 x6)).setCell ⟨g, 7, none⟩ (.int .i64 x7)).heap[g]? = some (.cells #[.int .i64 x0, .int .i64 x1, .int .i64 x2, .int .i64 x3, .int .i64 x4, .int .i64 x5, .int .i64 x6, .int .i64 x7] T (0, 0)) := by
 have h1 := Go.Joins.block_setCell (i := 0) h0 (.int .i64 x0)
 simp only [List.setIfInBounds_toArray, List.set_cons_zero, List.set_cons_succ] at h1
 have h2 := Go.Joins.block_setCell (i := 1) h1 (.int .i64 x1)
 simp only [List.setIfInBounds_toArray, List.set_cons_zero, List.set_cons_succ] at h2
 have h3 := Go.Joins.block_setCell (i := 2) h2 (.int .i64 x2)
 simp only [List.setIfInBounds_toArray, List.set_cons_zero, List.set_cons_succ] at h3
 have h4 := Go.Joins.block_setCell (i := 3) h3 (.int .i64 x3)
 simp only [List.setIfInBounds_toArray, List.set_cons_zero, List.set_cons_succ] at h4
 have h5 := Go.Joins.block_setCell (i := 4) h4 (.int .i64 x4)
 simp only [List.setIfInBounds_toArray, List.set_cons_zero, List.set_cons_succ] at h5
 have h6 := Go.Joins.block_setCell (i := 5) h5 (.int .i64 x5)
 simp only [List.setIfInBounds_toArray, List.set_cons_zero, List.set_cons_succ] at h6
 have h7 := Go.Joins.block_setCell (i := 6) h6 (.int .i64 x6)
 simp only [List.setIfInBounds_toArray, List.set_cons_zero, List.set_cons_succ] at h7
 have h8 := Go.Joins.block_setCell (i := 7) h7 (.int .i64 x7)
 simp only [List.setIfInBounds_toArray, List.set_cons_zero, List.set_cons_succ] at h8
 exact h8
theorem sl_cells {W : World} {A : Option Addr} {c : Nat} {t : List Int} (h : Sl W A c t) (hp : 0 < t.length) : ∃ ad, A = some ad ∧ ∀ j v, (t.map (Value.int .i64))[j]? = some v → W.cell? (ad.add j) = some v := by
 obtain ⟨ad, hA, _⟩ := Kd.at_int h.C 0 (by omega) (by omega)
 refine ⟨ad, hA, fun j v hj => ?_⟩
 have hjl : j < t.length := by
  have := (List.getElem?_eq_some_iff.1 hj).1
  simpa using this
 obtain ⟨ad2, hA2, hc⟩ := Kd.at_int h.C (j : Int) (by omega) (by omega)
 rw [hA] at hA2
 injection hA2 with hA2
 subst hA2
 rw [show ((j : Int)).toNat = j from by omega] at hc
 rw [hc]
 have h1 := (List.getElem?_eq_some_iff.1 hj).2
 simp at h1
 rw [← h1]
 simp [rd, hjl]
set_option maxHeartbeats 4000000 in
set_option maxRecDepth 100000 in
theorem key_calls (W : World) (A : Option Addr) (c : Nat) (t : List Int) (h : Sl W A c t) (hl : t.length ≤ 8) :
  Calls Tryz.prog 39 #[.slice A t.length c] W fun e w' => e = .returned (keyV t) ∧ Below W.heap.size W w' := by
 have HP := Aside0.mk h
 have H8 := Aside0.mk (list8 (keyL t) (by simp [keyL]; omega))
 obtain ⟨b, hb⟩ : ∃ b, b = W.heap.size := ⟨_, rfl⟩
 have HB := Aside0.mk hb
 obtain ⟨V, hV⟩ : ∃ V, V = (W.alloc (.cells #[.int .i64 0, .int .i64 0, .int .i64 0, .int .i64 0, .int .i64 0, .int .i64 0, .int .i64 0, .int .i64 0] 96)).alloc (.cells #[.int .i64 0, .int .i64 0, .int .i64 0, .int .i64 0, .int .i64 0, .int .i64 0, .int .i64 0, .int .i64 0] 96) := ⟨_, rfl⟩
 have BV := Aside0.mk (show Below W.heap.size W V by rw [hV]; exact ((Below.refl _ W).alloc (Nat.le_refl _) _).alloc (by simp) _)
 have C0 := Aside0.mk (show V.heap[b]? = some (.cells #[.int .i64 0, .int .i64 0, .int .i64 0, .int .i64 0, .int .i64 0, .int .i64 0, .int .i64 0, .int .i64 0] 96 (0, 0)) by rw [hV, hb, blk_alloc_lt _ _ _ (by simp)]; exact blk_alloc_new _ _)
 have C1 := Aside0.mk (show V.heap[b + 1]? = some (.cells (List.replicate 8 (Value.int .i64 0)).toArray 96 (0, 0)) by
  rw [hV, hb]
  have := blk_alloc_new (W.alloc (.cells #[.int .i64 0, .int .i64 0, .int .i64 0, .int .i64 0, .int .i64 0, .int .i64 0, .int .i64 0, .int .i64 0] 96)) (.cells #[.int .i64 0, .int .i64 0, .int .i64 0, .int .i64 0, .int .i64 0, .int .i64 0, .int .i64 0, .int .i64 0] 96)
  rw [show (W.alloc (.cells #[.int .i64 0, .int .i64 0, .int .i64 0, .int .i64 0, .int .i64 0, .int .i64 0, .int .i64 0, .int .i64 0] 96)).heap.size = W.heap.size + 1 by simp] at this
  exact this)
 have HV := Aside0.mk hV
 clear h hb hV
 go_enter Tryz.func39, Tryz.ntmps39
 have HX := Aside0.mk (show 0 < (t.map (Value.int .i64)).length → some (⟨W.heap.size + 1, 0, none⟩ : Addr) = some ⟨b + 1, 0, none⟩ ∧ ∃ ad, A = some ad ∧ ∀ j v, (t.map (Value.int .i64))[j]? = some v → V.cell? (ad.add j) = some v from fun h0 => ⟨by rw [HB.out], sl_cells (HP.out.below BV.out) (by simpa using h0)⟩)
 have HF := Aside0.mk (show 0 + (t.map (Value.int .i64)).length ≤ (List.replicate 8 (Value.int .i64 0)).length by simpa using hl)
 have H1 := Aside0.mk (show ∀ v ∈ t.map (Value.int .i64), v.oneCell' = true by intro v hv; obtain ⟨x, _, rfl⟩ := List.mem_map.1 hv; rfl)
 have HM := Aside0.mk (show (t.map (Value.int .i64)).length = Nat.min t.length 8 by rw [List.length_map]; exact (Nat.min_eq_left hl).symm)
 go_wp2_with ((with_reducible refine gate_builtin (b := .copy) (xs := #[.tmp 4, .tmp 5]) rfl ?_); go_loud (rw [← HV.out]; refine wpList_copy_splice rfl (.tmp 4) (.tmp 5) 23 23 rfl 3 Tryz.underlying23 (by kernel_rfl) _ A 8 8 t.length c rfl rfl (b + 1) 0 (List.replicate 8 (Value.int .i64 0)) 96 C1.out (t.map (Value.int .i64)) HM.out HX.out HF.out H1.out (b + 1) V (Below.refl _ V) (Nat.le_refl _) ?_; intro w1 hg1 hb1; obtain ⟨x0, x1, x2, x3, x4, x5, x6, x7, hk⟩ := H8.out; have G1 := Aside0.mk (show w1.heap[b + 1]? = some (.cells #[.int .i64 x0, .int .i64 x1, .int .i64 x2, .int .i64 x3, .int .i64 x4, .int .i64 x5, .int .i64 x6, .int .i64 x7] 96 (0, 0)) from (key_splice hg1 hk)); have G0 := Aside0.mk ((hb1.block b (by omega)).trans C0.out); have HB1 := Aside0.mk hb1; have HK := Aside0.mk hk; clear hg1 hb1 hk; have z0 : w1.cell? ⟨b + 1, 0, none⟩ = some (.int .i64 x0) := (Tup.cell_of_heap G1.out 0).trans rfl; have z1 : w1.cell? ⟨b + 1, 1, none⟩ = some (.int .i64 x1) := (Tup.cell_of_heap G1.out 1).trans rfl; have z2 : w1.cell? ⟨b + 1, 2, none⟩ = some (.int .i64 x2) := (Tup.cell_of_heap G1.out 2).trans rfl; have z3 : w1.cell? ⟨b + 1, 3, none⟩ = some (.int .i64 x3) := (Tup.cell_of_heap G1.out 3).trans rfl; have z4 : w1.cell? ⟨b + 1, 4, none⟩ = some (.int .i64 x4) := (Tup.cell_of_heap G1.out 4).trans rfl; have z5 : w1.cell? ⟨b + 1, 5, none⟩ = some (.int .i64 x5) := (Tup.cell_of_heap G1.out 5).trans rfl; have z6 : w1.cell? ⟨b + 1, 6, none⟩ = some (.int .i64 x6) := (Tup.cell_of_heap G1.out 6).trans rfl; have z7 : w1.cell? ⟨b + 1, 7, none⟩ = some (.int .i64 x7) := (Tup.cell_of_heap G1.out 7).trans rfl; have hc0 := G0.out; have hz0 : (8 : Nat) = 8 := rfl; obtain ⟨y0, hy0⟩ := cell_in hc0 (j := 0) (by first | (simp only [List.size_toArray, List.length_cons, List.length_nil]; done) | decide | omega); have hf0 := free_in hc0 0; obtain ⟨cur1, hc1, hz1⟩ := set_in hc0 0 (.int .i64 x0); have hz1 : cur1.size = 8 := hz1; obtain ⟨y1, hy1⟩ := cell_in hc1 (j := 1) (by first | (simp only [List.size_toArray, List.length_cons, List.length_nil]; done) | decide | omega); have hf1 := free_in hc1 1; obtain ⟨cur2, hc2, hz2⟩ := set_in hc1 1 (.int .i64 x1); have hz2 : cur2.size = 8 := hz2.trans hz1; obtain ⟨y2, hy2⟩ := cell_in hc2 (j := 2) (by first | (simp only [List.size_toArray, List.length_cons, List.length_nil]; done) | decide | omega); have hf2 := free_in hc2 2; obtain ⟨cur3, hc3, hz3⟩ := set_in hc2 2 (.int .i64 x2); have hz3 : cur3.size = 8 := hz3.trans hz2; obtain ⟨y3, hy3⟩ := cell_in hc3 (j := 3) (by first | (simp only [List.size_toArray, List.length_cons, List.length_nil]; done) | decide | omega); have hf3 := free_in hc3 3; obtain ⟨cur4, hc4, hz4⟩ := set_in hc3 3 (.int .i64 x3); have hz4 : cur4.size = 8 := hz4.trans hz3; obtain ⟨y4, hy4⟩ := cell_in hc4 (j := 4) (by first | (simp only [List.size_toArray, List.length_cons, List.length_nil]; done) | decide | omega); have hf4 := free_in hc4 4; obtain ⟨cur5, hc5, hz5⟩ := set_in hc4 4 (.int .i64 x4); have hz5 : cur5.size = 8 := hz5.trans hz4; obtain ⟨y5, hy5⟩ := cell_in hc5 (j := 5) (by first | (simp only [List.size_toArray, List.length_cons, List.length_nil]; done) | decide | omega); have hf5 := free_in hc5 5; obtain ⟨cur6, hc6, hz6⟩ := set_in hc5 5 (.int .i64 x5); have hz6 : cur6.size = 8 := hz6.trans hz5; obtain ⟨y6, hy6⟩ := cell_in hc6 (j := 6) (by first | (simp only [List.size_toArray, List.length_cons, List.length_nil]; done) | decide | omega); have hf6 := free_in hc6 6; obtain ⟨cur7, hc7, hz7⟩ := set_in hc6 6 (.int .i64 x6); have hz7 : cur7.size = 8 := hz7.trans hz6; obtain ⟨y7, hy7⟩ := cell_in hc7 (j := 7) (by first | (simp only [List.size_toArray, List.length_cons, List.length_nil]; done) | decide | omega); have hf7 := free_in hc7 7; obtain ⟨cur8, hc8, hz8⟩ := set_in hc7 7 (.int .i64 x7); have hz8 : cur8.size = 8 := hz8.trans hz7; clear hz0; rw [← HB.out]))
 have P8 := put8 x0 x1 x2 x3 x4 x5 x6 x7 G0.out
 refine bodyPost_ret (results_cell_row rfl _ _ b 96 #[.int .i64 x0, .int .i64 x1, .int .i64 x2, .int .i64 x3, .int .i64 x4, .int .i64 x5, .int .i64 x6, .int .i64 x7] (0, 0) _ rfl P8 Tryz.underlying96 rfl (by kernel_rfl)) rfl ?_
 have HB2 := HB1.out
 have hlt : W.heap.size ≤ b := by rw [HB.out]; exact Nat.le_refl _
 have B1 : Below W.heap.size W w1 := BV.out.trans ⟨HB2.os, HB2.tape, HB2.output, HB2.size, fun k hk => HB2.block k (by omega)⟩
 refine ⟨by unfold keyV; rw [HK.out]; rfl, ?_⟩
 exact ((((((((B1.setCell hlt _).setCell hlt _).setCell hlt _).setCell hlt _).setCell hlt _).setCell hlt _).setCell hlt _).setCell hlt _)
def noteV (n : Int × Int) : Value := .complex .f64 (nf n.1) (nf n.2)
abbrev Row := List Int × (Int × Int)
theorem key_inj {a b : List Int} (h : a.length = b.length) (e : keyL a = keyL b) : a = b := List.append_inj_left e h
theorem keyL_len {t : List Int} (h : t.length ≤ 8) : (keyL t).length = 8 := by simp [keyL]; omega
abbrev arr (l : List Int) : Array Value := (l.map (Value.int .i64)).toArray
theorem arr_at (l : List Int) (i : Nat) (h : i < l.length) : (arr l)[i]? = some (.int .i64 (l.getD i 0)) := by
 simp [arr, h]
theorem infoI : ∃ i, Tryz.prog.info? 3 = some i := by
 obtain ⟨i, hi, _⟩ := info_parts info3
 exact ⟨i, hi⟩
theorem cellsI : Tryz.prog.cellsOf 3 = 1 := by kernel_rfl
theorem plainI : Tryz.prog.plainKey 3 = true := by kernel_rfl
theorem eqItems_ints (w : World) (d : Nat) (xs ys : List Int) : ∀ is : List Nat, (∀ i ∈ is, i < xs.length ∧ i < ys.length) →
  (Op.eqItems (d + 1) 3 1 (arr xs) (arr ys) is).run Tryz.prog w = .ok (is.all fun i => xs.getD i 0 == ys.getD i 0) w
 | [], _ => by simp [Op.eqItems]
 | i :: is, h => by
  have hi := h i (by simp)
  have ih := eqItems_ints w d xs ys is (fun j hj => h j (by simp [hj]))
  have p1 := run_part_plain (P := Tryz.prog) w plainI (xs := arr xs) (off := i * 1) (v := .int .i64 (xs.getD i 0)) (by rw [Nat.mul_one]; exact arr_at xs i hi.1)
  have p2 := run_part_plain (P := Tryz.prog) w plainI (xs := arr ys) (off := i * 1) (v := .int .i64 (ys.getD i 0)) (by rw [Nat.mul_one]; exact arr_at ys i hi.2)
  have p3 := run_equalIn_int (P := Tryz.prog) w d 3 .i64 .i64 (xs.getD i 0) (ys.getD i 0) Tryz.underlying3
  simp only [Op.eqItems, Sem.run_bind, p1, p2, p3, Result.andThen_ok]
  cases hb : (xs.getD i 0 == ys.getD i 0)
  ·rw [List.all_cons, hb]; simp
  ·rw [List.all_cons, hb]; simp only [Bool.not_true, Bool.false_eq_true, if_false, ih, Bool.true_and]
set_option maxRecDepth 100000 in
theorem eq8 (w : World) (a b : List Int) (ha : a.length = 8) (hb : b.length = 8) : (Op.equal 96 (.agg (arr a)) (.agg (arr b))).run Tryz.prog w = .ok (decide (a = b)) w := by
 obtain ⟨i, hi⟩ := infoI
 show (Op.equalIn (9999 + 1) _ _ _).run _ _ = _
 rw [run_equalIn_array w 9999 _ _ Tryz.underlying96 hi, cellsI, eqItems_ints w 9998 a b _ (fun j hj => by rw [ha, hb]; simpa using hj)]
 congr 1
 rw [Bool.eq_iff_iff]
 simp only [List.all_eq_true, List.mem_range, beq_iff_eq, decide_eq_true_eq]
 constructor
 ·intro h
  refine List.ext_getElem (by rw [ha, hb]) fun j h1 h2 => ?_
  have := h j (by omega)
  simpa [h1, h2] using this
 ·rintro rfl; simp
theorem check_int (w : World) (em : Bool) (n : Nat) (x : Int) : (Instr.checkKey em (n + 1) 3 (.int .i64 x)).run Tryz.prog w = .ok () w := by
 simp [Instr.checkKey, run_underlying Tryz.underlying3]
set_option maxRecDepth 100000 in
theorem check8 (w : World) (em : Bool) (a : List Int) (ha : a.length = 8) : (Instr.checkKey em 10000 96 (.agg (arr a))).run Tryz.prog w = .ok () w := by
 obtain ⟨i, hi⟩ := infoI
 have hp : ∀ j, j < 8 → (part 3 (arr a) (j * 1)).run Tryz.prog w = .ok (.int .i64 (a.getD j 0)) w := fun j hj => run_part_plain (P := Tryz.prog) w plainI (by rw [Nat.mul_one]; exact arr_at a j (by omega))
 show (Instr.checkKey em (9999 + 1) _ _).run _ _ = _
 rw [Instr.checkKey]
 simp only [Sem.run_bind, run_underlying Tryz.underlying96, Result.andThen_ok]
 simp only [Std.Legacy.Range.forIn_eq_forIn_range', Std.Legacy.Range.size, Nat.sub_zero, Nat.add_one_sub_one, Nat.div_one]
 have gen : ∀ (n s : Nat), s + n ≤ 8 → (forIn (List.range' s n 1) PUnit.unit fun i r => do let __do_lift ← sizeOf 3; let __do_lift ← part 3 (arr a) (i * __do_lift); Instr.checkKey em 9999 3 __do_lift; pure PUnit.unit; pure (ForInStep.yield PUnit.unit) : Sem PUnit).run Tryz.prog w = .ok PUnit.unit w := by
  intro n
  induction n with
  | zero => intro s _; simp
  | succ n ih =>
   intro s hs
   rw [List.range'_succ, List.forIn_cons]
   simp only [Sem.run_bind, run_sizeOf w hi, cellsI, Result.andThen_ok, hp s (by omega), check_int w em 9998, Sem.run_pure]
   exact ih (s + 1) (by omega)
 have := gen 8 0 (by omega)
 simp at this
 simp [this]
def lookF : List Row → List Int → Option (Int × Int)
 | [], _ => none
 | x :: R, t => if x.1 = t then some x.2 else lookF R t
def updF : List Row → List Int → (Int × Int) → List Row
 | [], t, n => [(t, n)]
 | x :: R, t, n => if x.1 = t then (t, n) :: R else x :: updF R t n
theorem lookF_updF (R : List Row) (t : List Int) (n : Int × Int) (s : List Int) : lookF (updF R t n) s = if s = t then some n else lookF R s := by
 induction R with
 | nil => simp only [updF, lookF]; by_cases h : t = s <;> simp [h, eq_comm]
 | cons x R ih =>
  simp only [updF]
  by_cases h : x.1 = t
  ·simp only [h, if_true, lookF]
   by_cases hs : s = t
   ·simp [hs]
   ·have : ¬ t = s := fun e => hs e.symm
    simp [hs, this, h]
  ·simp only [h, if_false, lookF, ih]
   by_cases hs : s = t
   ·subst hs; simp [h]
   ·simp [hs]
theorem updF_len (R : List Row) (t : List Int) (n : Int × Int) : (updF R t n).length = if (lookF R t).isSome then R.length else R.length + 1 := by
 induction R with
 | nil => simp [updF, lookF]
 | cons x R ih =>
  simp only [updF, lookF]
  by_cases h : x.1 = t
  ·simp [h]
  ·simp only [h, if_false, List.length_cons, ih]
   split <;> omega
def EntOf (es : List MapEntry) (M : List Row) : Prop := es.map (fun e => (e.key, e.val)) = M.map fun x => (keyV x.1, noteV x.2)
def MapAt (W : World) (m wd : Nat) (R : List Row) : Prop :=
 ∃ es clock M, W.heap[m]? = some (.map es clock) ∧ EntOf es.toList M ∧ (∀ x ∈ M, x.1.length = wd) ∧ M.length = R.length ∧ ∀ t, lookF M t = lookF R t
theorem find_asking (w : World) {wd : Nat} (hwd : wd ≤ 8) (t : List Int) (ht : t.length = wd) : ∀ (es : List MapEntry) (M : List Row) (i : Nat), EntOf es M → (∀ x ∈ M, x.1.length = wd) →
  (lookF M t = none ∧ (Instr.findAsking 96 (keyV t) es i).run Tryz.prog w = .ok none w) ∨
  ∃ j n e, lookF M t = some n ∧ (Instr.findAsking 96 (keyV t) es i).run Tryz.prog w = .ok (some (i + j, noteV n)) w ∧ es[j]? = some e ∧ e.key = keyV t ∧
   ∀ n' : Int × Int, ∀ g : MapEntry → MapEntry, (∀ e, (g e).key = keyV t ∧ (g e).val = noteV n') → EntOf (es.modify j g) (updF M t n')
 | [], M, i, hE, _ => by
  have : M = [] := by have := congrArg List.length hE; simpa using this.symm
  subst this
  exact .inl ⟨rfl, by simp [Instr.findAsking]⟩
 | e :: es, [], i, hE, _ => by simp [EntOf] at hE
 | e :: es, x :: M, i, hE, hM => by
  have hE' : (e.key = keyV x.1 ∧ e.val = noteV x.2) ∧ EntOf es M := by simpa [EntOf] using hE
  obtain ⟨⟨hk, hv⟩, hE2⟩ := hE'
  have hx := hM x (by simp)
  have heq := eq8 w (keyL t) (keyL x.1) (keyL_len (by omega)) (keyL_len (by omega))
  have hr : (Op.equal 96 (keyV t) e.key).run Tryz.prog w = .ok (decide (keyL t = keyL x.1)) w := by rw [hk]; exact heq
  by_cases hxt : x.1 = t
  ·refine .inr ⟨0, x.2, e, by simp [lookF, hxt], ?_, rfl, by rw [hk, hxt], fun n' g hg => ?_⟩
   ·simp only [Instr.findAsking, Sem.run_bind, hr, Result.andThen_ok]
    simp [hxt, hv]
   ·simp only [updF, hxt, if_true, EntOf, List.modify_zero_cons, List.map_cons, (hg e).1, (hg e).2]
    rw [show es.map (fun e => (e.key, e.val)) = M.map (fun x => (keyV x.1, noteV x.2)) from hE2]
  ·have hne : ¬ keyL t = keyL x.1 := fun h => hxt (key_inj (by omega) h).symm
   rcases find_asking w hwd t ht es M (i + 1) hE2 (fun y hy => hM y (by simp [hy])) with ⟨h1, h2⟩ | ⟨j, n, e', h1, h2, h3, h4, h5⟩
   ·refine .inl ⟨by simp [lookF, hxt, h1], ?_⟩
    simp only [Instr.findAsking, Sem.run_bind, hr, Result.andThen_ok]
    simpa [hne] using h2
   ·refine .inr ⟨j + 1, n, e', by simp [lookF, hxt, h1], ?_, by simpa using h3, h4, fun n' g hg => ?_⟩
    ·simp only [Instr.findAsking, Sem.run_bind, hr, Result.andThen_ok]
     simp only [hne, decide_false, Bool.false_eq_true, if_false]
     rw [h2, Nat.add_assoc, Nat.add_comm 1 j]
    ·have := h5 n' g hg
     simp only [EntOf, updF, hxt, if_false, List.modify_succ_cons, List.map_cons, hk, hv] at this ⊢
     rw [this]
theorem find_key (w : World) (t : List Int) (es : List MapEntry) : (Instr.findKey 96 (keyV t) es).run Tryz.prog w = (Instr.findAsking 96 (keyV t) es).run Tryz.prog w :=
 run_findKey_eq w (by rw [Tryz.underlying96]) _ _
def zeroN : Value := .complex .f64 0 0
set_option maxRecDepth 100000 in
theorem infoN : (Tryz.prog.info? 31).map (fun i => (i.zero, i.size, i.bytes)) = some (some (.complex .f64 0 0), 1, 16) := by kernel_rfl
set_option maxRecDepth 100000 in
theorem zero_note (w : World) : (zeroValue 31).run Tryz.prog w = .ok zeroN w := by
 obtain ⟨i, hi, hz, _⟩ := info_parts infoN
 simp [zeroValue, typeInfo, hi, hz, zeroN, Sem.run_bind, Result.andThen]
def noteOf : Option (Int × Int) → Value
 | none => zeroN
 | some n => noteV n
set_option maxRecDepth 100000 in
theorem look_run (w : World) {m wd : Nat} {R : List Row} (h : MapAt w m wd R) (hwd : wd ≤ 8) (t : List Int) (ht : t.length = wd) (ok : Bool) :
  (Instr.lookup 72 (.map (some m)) (keyV t) ok).run Tryz.prog w = .ok (if ok then .tuple #[noteOf (lookF R t), .bool (lookF R t).isSome] else noteOf (lookF R t)) w := by
 obtain ⟨es, clock, M, hb, hE, hM, hl, hf⟩ := h
 have hc := check8 w es.isEmpty (keyL t) (keyL_len (by omega))
 rw [← hf t]
 rcases find_asking w hwd t ht es.toList M 0 hE hM with ⟨h1, h2⟩ | ⟨j, n, e', h1, h2, _⟩
 ·rw [← find_key] at h2
  simp only [keyV, arr] at h2 hc ⊢
  simp [Instr.lookup, run_underlying Tryz.underlying72, MapKept.run_getObj_map hb, hc, h2, zero_note, h1, noteOf, Result.andThen]
  cases ok <;> rfl
 ·rw [← find_key] at h2
  simp only [keyV, arr] at h2 hc ⊢
  simp [Instr.lookup, run_underlying Tryz.underlying72, MapKept.run_getObj_map hb, hc, h2, h1, noteOf, Result.andThen]
set_option maxRecDepth 100000 in
theorem bits_self (t : List Int) : Instr.sameBits 10000 (keyV t) (keyV t) = true := by
 show Instr.sameBits (9999 + 1) (.agg _) (.agg _) = true
 simp only [Instr.sameBits, beq_self_eq_true, Bool.true_and, List.all_eq_true]
 rintro ⟨a, b⟩ hp
 obtain ⟨i, hi, he⟩ := List.getElem_of_mem hp
 simp at he
 obtain ⟨rfl, rfl⟩ := he
 simp [Instr.sameBits]
set_option maxRecDepth 100000 in
theorem upd_run (w : World) {m wd : Nat} {R : List Row} (h : MapAt w m wd R) (hwd : wd ≤ 8) (t : List Int) (ht : t.length = wd) (n : Int × Int) :
  ∃ ob, (Instr.mapUpdate 72 (.map (some m)) (keyV t) (noteV n)).run Tryz.prog w = .ok () (w.putObj m ob) ∧ MapAt (w.putObj m ob) m wd (updF R t n) := by
 obtain ⟨es, clock, M, hb, hE, hM, hl, hf⟩ := h
 have hlt : m < w.heap.size := (Array.getElem?_eq_some_iff.1 hb).1
 have hc := check8 w false (keyL t) (keyL_len (by omega))
 have hm' : ∀ x ∈ updF M t n, x.1.length = wd := by
  intro x hx
  have : ∀ M : List Row, (∀ x ∈ M, x.1.length = wd) → x ∈ updF M t n → x.1.length = wd := by
   intro M
   induction M with
   | nil => intro _ h; simp [updF] at h; rw [h]; exact ht
   | cons y M ih =>
    intro h1 h2
    simp only [updF] at h2
    split at h2
    ·rcases List.mem_cons.1 h2 with rfl | h2
     ·exact ht
     ·exact h1 x (by simp [h2])
    ·rcases List.mem_cons.1 h2 with rfl | h2
     ·exact h1 _ (by simp)
     ·exact ih (fun z hz => h1 z (by simp [hz])) h2
  exact this M hM hx
 have hlen : (updF M t n).length = (updF R t n).length := by rw [updF_len, updF_len, hf, hl]
 have hlook : ∀ s, lookF (updF M t n) s = lookF (updF R t n) s := fun s => by rw [lookF_updF, lookF_updF, hf]
 rcases find_asking w hwd t ht es.toList M 0 hE hM with ⟨h1, h2⟩ | ⟨j, n0, e', h1, h2, h3, h4, h5⟩
 ·rw [← find_key] at h2
  refine ⟨.map (es.push ⟨keyV t, noteV n, clock⟩) (clock + 1), ?_, _, _, updF M t n, World.putObj_heap_same hlt, ?_, hm', hlen, hlook⟩
  ·simp only [keyV, arr] at h2 hc ⊢
   simp [Instr.mapUpdate, run_underlying Tryz.underlying72, MapKept.run_getObj_map hb, hc, h2, MapKept.run_setObj_map _ hb, Result.andThen, World.putObj]
  ·have : ∀ M : List Row, lookF M t = none → updF M t n = M ++ [(t, n)] := by
    intro M
    induction M with
    | nil => intro _; rfl
    | cons y M ih =>
     intro h
     simp only [lookF] at h
     split at h
     ·cases h
     ·rename_i hy; simp [updF, hy, ih h]
   rw [this M h1]
   simp only [EntOf, Array.toList_push, List.map_append, List.map_cons, List.map_nil] at hE ⊢
   rw [hE]
 ·rw [← find_key] at h2
  have hj : es[j]? = some e' := by simpa using h3
  refine ⟨.map (es.modify j fun e => { e with key := keyV t, val := noteV n }) clock, ?_, _, _, updF M t n, World.putObj_heap_same hlt, ?_, hm', hlen, hlook⟩
  ·have hst : (Instr.keyThatStays (keyV t) (keyV t)).run Tryz.prog w = .ok (keyV t) w := by simp [Instr.keyThatStays, bits_self]
   simp only [Nat.zero_add] at h2
   have hc' : (Instr.checkKey false 10000 96 (keyV t)).run Tryz.prog w = .ok () w := hc
   simp [Instr.mapUpdate, run_underlying Tryz.underlying72, MapKept.run_getObj_map hb, hc', h2, hj, h4, hst, MapKept.run_setObj_map _ hb, Result.andThen, World.putObj]
  ·have := h5 n (fun e => { e with key := keyV t, val := noteV n }) (fun e => ⟨rfl, rfl⟩)
   simpa using this
end Go.Proofs.YtcmllllbmgcnlaaGreat.Rl
end
