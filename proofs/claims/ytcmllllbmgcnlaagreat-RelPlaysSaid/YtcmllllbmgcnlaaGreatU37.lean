/- Own texts, joined and cut to what the claim stands on: RlBegun. -/
import Derived.Test.YtcmllllbmgcnlaaGreatU36
import Derived.Test.YtcmllllbmgcnlaaGreatU34
section
namespace Go.Proofs.YtcmllllbmgcnlaaGreat.Rl
open Go.RowKit Go.Lib Go.Shelf Go.Proofs.YtcmllllbmgcnlaaGreat.G Go.Proofs.YtcmllllbmgcnlaaGreat.Tup Go.Proofs.YtcmllllbmgcnlaaGreatW.PrintWords Go.Proofs.YtcmllllbmgcnlaaGreatW.PrintLast Go.Proofs.YtcmllllbmgcnlaaGreatW.PrintMore
open Go.Proofs.YtcmllllbmgcnlaaGreat.Ch (rwrongS)
set_option linter.unusedVariables false
set_option linter.unusedSimpArgs false
def BegS (W : World) (bw : Nat) (i : Nat) (w : World) : Prop :=
 (i = 0 ∧ w.heap[bw]? = some (.cells #[.pointer none, .pointer none, .int .i64 0, .slice none 0 0, .int .i64 0, .slice none 0 0] 90 (0, 0))) ∨
 (i = 1 ∧ ∃ b0 w0 F, w.heap[bw]? = some (.cells #[.pointer (some ⟨b0, 0, none⟩), .pointer none, .int .i64 ((w0 : Nat) : Int), .slice none 0 0, .int .i64 0, .slice none 0 0] 90 (0, 0)) ∧ RelF F w b0 w0 [] ∧ (∀ k, F k → bw < k ∧ k < w.heap.size) ∧ w0 ≤ 8) ∨
 (i = 2 ∧ ∃ b0 w0 F b1 w1 F', w.heap[bw]? = some (.cells #[.pointer (some ⟨b0, 0, none⟩), .pointer (some ⟨b1, 0, none⟩), .int .i64 ((w0 : Nat) : Int), .slice none 0 0, .int .i64 ((w1 : Nat) : Int), .slice none 0 0] 90 (0, 0)) ∧ RelF F w b0 w0 [] ∧ (∀ k, F k → bw < k ∧ k < w.heap.size) ∧ w0 ≤ 8 ∧ RelF F' w b1 w1 [] ∧ (∀ k, F' k → bw < k ∧ k < w.heap.size ∧ ¬ F k) ∧ w1 ≤ 8)
def BegunQ (W : World) (e : Ending) (w' : World) : Prop :=
 Below W.heap.size W w' ∧ (e = .returned (.tuple #[.pointer none, .bool true]) ∨ ∃ bw, W.heap.size ≤ bw ∧ e = .returned (.tuple #[.pointer (some ⟨bw, 0, none⟩), .bool true]) ∧ BegS W bw 2 w')
theorem width_one {width : Int} {l : List Int} (h : rwrongS width l = 0) : ∃ wd : Nat, width = wd ∧ wd ≤ 8 := by
 unfold Go.Proofs.YtcmllllbmgcnlaaGreat.Ch.rwrongS at h
 split at h
 ·cases h
 ·exact ⟨width.toNat, by omega, by omega⟩
theorem made_F {W : World} {width : Int} {e : Ending} {w' : World} (h : MadeR W width e w') : ∃ br wx : Nat, Aside0 (width = (wx : Int)) ∧ e = .returned (.tuple #[.pointer (some ⟨br, 0, none⟩), .int .i64 0]) ∧ Below W.heap.size W w' ∧ RelF (fun k => W.heap.size ≤ k ∧ k < w'.heap.size) w' br wx [] := by
 obtain ⟨br, wd, os, m, bss, hwd, rfl, hb, g1, g2, g3, hR⟩ := h
 refine ⟨br, wd, ⟨hwd⟩, rfl, hb, _, os, m, bss, hR.bound, fun k hk => ?_⟩
 rcases hk with hk | hk | hk | hk
 ·exact ⟨hk.1.1, hk.2⟩
 ·exact ⟨by omega, hk ▸ hR.lt⟩
 ·exact ⟨by omega, hk ▸ hR.map.lt⟩
 ·exact ⟨g3 k hk, hR.blt k hk⟩
def NewP (w w' : World) (x z : Int) (p : Option Addr) : Prop :=
 (z ≠ 0 ∧ p = none) ∨ (z = 0 ∧ ∃ br wx : Nat, p = some ⟨br, 0, none⟩ ∧ x = (wx : Int) ∧ wx ≤ 8 ∧ RelF (fun k => w.heap.size ≤ k ∧ k < w'.heap.size) w' br wx [])
theorem new_both (w : World) (x : Int) (A : Option Addr) (c : Nat) (l : List Int) (h : Sl w A c l) :
  Calls Tryz.prog 11 #[.int .i64 x, .slice A l.length c] w fun e w' => ∃ p, e = .returned (.tuple #[.pointer p, .int .i64 (rwrongS x l)]) ∧ Below w.heap.size w w' ∧ Aside0 (NewP w w' x (rwrongS x l) p) := by
 by_cases hz : rwrongS x l = 0
 ·refine (rnew_yes w x A c l h hz).mono fun e w' hp => ?_
  obtain ⟨br, wx, hx, rfl, hb, hR⟩ := made_F hp
  obtain ⟨wd, hwd, h8⟩ := width_one hz
  exact ⟨_, by rw [hz], hb, ⟨.inr ⟨hz, br, wx, rfl, hx.out, by have := hx.out; omega, hR⟩⟩⟩
 ·exact (rnew_no w x A c l h hz).mono fun e w' hp => ⟨none, hp.1, hp.2, ⟨.inl ⟨hz, rfl⟩⟩⟩
theorem rnew_both (w : World) (x : Int) (A : Option Addr) (c : Nat) (l : List Int) (h : Sl w A c l) :
  Calls Tryz.prog 26 #[.int .i64 x, .slice A l.length c] w fun e w' => e = .returned (.tuple #[.agg #[.int .i64 (if rwrongS x l = 0 then x else 0), .slice none 0 0], .int .i64 (rwrongS x l)]) ∧ Below w.heap.size w w' := by
 by_cases hz : rwrongS x l = 0
 ·rw [if_pos hz, hz]; exact rnew7_yes w x A c l h hz
 ·rw [if_neg hz]; exact rnew7_no w x A c l h hz
theorem six_cells {w : World} {b : Nat} {y0 y1 y2 y3 y4 y5 : Value} {t : TypeId} (h : w.heap[b]? = some (.cells #[y0, y1, y2, y3, y4, y5] t (0, 0))) : w.cell? ⟨b, 0, none⟩ = some y0 ∧ w.cell? ⟨b, 1, none⟩ = some y1 ∧ w.cell? ⟨b, 2, none⟩ = some y2 ∧ w.cell? ⟨b, 3, none⟩ = some y3 ∧ w.cell? ⟨b, 4, none⟩ = some y4 ∧ w.cell? ⟨b, 5, none⟩ = some y5 :=
 ⟨(Tup.cell_of_heap h 0).trans rfl, (Tup.cell_of_heap h 1).trans rfl, (Tup.cell_of_heap h 2).trans rfl, (Tup.cell_of_heap h 3).trans rfl, (Tup.cell_of_heap h 4).trans rfl, (Tup.cell_of_heap h 5).trans rfl⟩
theorem kset (wC : World) (bw j0 j1 j2 : Nat) (v0 v1 v2 : Value) : KeptS (fun k => k = bw) wC (((wC.setCell ⟨bw, j0, none⟩ v0).setCell ⟨bw, j1, none⟩ v1).setCell ⟨bw, j2, none⟩ v2).drew :=
 (((KeptS.one (Kept1.set bw wC j0 v0)).trans (KeptS.one (Kept1.set bw _ j1 v1))).trans (KeptS.one (Kept1.set bw _ j2 v2))).trans (.below (Since.refl _).drew.b)
theorem set3 {wC : World} {bw : Nat} {cs : Array Value} {t : TypeId} (h : wC.heap[bw]? = some (.cells cs t (0, 0))) (j0 j1 j2 : Nat) (v0 v1 v2 : Value) : (((wC.setCell ⟨bw, j0, none⟩ v0).setCell ⟨bw, j1, none⟩ v1).setCell ⟨bw, j2, none⟩ v2).drew.heap[bw]? = some (.cells (((cs.setIfInBounds j0 v0).setIfInBounds j1 v1).setIfInBounds j2 v2) t (0, 0)) :=
 heap_setCell_same _ bw j2 _ _ v2 (heap_setCell_same _ bw j1 _ _ v1 (heap_setCell_same wC bw j0 _ _ v0 h))
theorem begs_step0 {W wr wA wC : World} {bw br wx : Nat} {x : Int} (hbw : wr.heap[bw]? = some (.cells #[.pointer none, .pointer none, .int .i64 0, .slice none 0 0, .int .i64 0, .slice none 0 0] 90 (0, 0))) (hs : Since wr wC) (hA : Since wA wC) (hR : RelF (fun k => wr.drew.heap.size ≤ k ∧ k < wA.heap.size) wA br wx []) (hx : x = (wx : Int)) (h8 : wx ≤ 8) :
  BegS W bw 1 (((wC.setCell ⟨bw, 0, none⟩ (.pointer (some ⟨br, 0, none⟩))).setCell ⟨bw, 2, none⟩ (.int .i64 x)).setCell ⟨bw, 3, none⟩ (.slice none 0 0)).drew := by
 have hlt := (Array.getElem?_eq_some_iff.1 hbw).1
 have hk := kset wC bw 0 2 3 (.pointer (some ⟨br, 0, none⟩)) (.int .i64 x) (.slice none 0 0)
 have hsz := hk.size
 have hz := hA.b.size
 have hd : wr.drew.heap.size = wr.heap.size := rfl
 refine .inr (.inl ⟨rfl, br, wx, _, ?_, (hR.since hA).step fun k hF hl => hk.same k hl (fun e => by have := hF.1; omega), fun k hF => ⟨by have := hF.1; omega, by have := hF.2; omega⟩, h8⟩)
 have := set3 (blk hs.b hbw) 0 2 3 (.pointer (some ⟨br, 0, none⟩)) (.int .i64 x) (.slice none 0 0)
 rw [this, hx]
 rfl
theorem begs_step1 {W wr wA wC : World} {bw br wx b0 w0 : Nat} {F : Nat → Prop} {x : Int} (hbw : wr.heap[bw]? = some (.cells #[.pointer (some ⟨b0, 0, none⟩), .pointer none, .int .i64 ((w0 : Nat) : Int), .slice none 0 0, .int .i64 0, .slice none 0 0] 90 (0, 0))) (hs : Since wr wC) (hA : Since wA wC) (hR : RelF (fun k => wr.drew.heap.size ≤ k ∧ k < wA.heap.size) wA br wx []) (hx : x = (wx : Int)) (h8 : wx ≤ 8) (hR0 : RelF F wr b0 w0 []) (hF0 : ∀ k, F k → bw < k ∧ k < wr.heap.size) (h80 : w0 ≤ 8) :
  BegS W bw 2 (((wC.setCell ⟨bw, 1, none⟩ (.pointer (some ⟨br, 0, none⟩))).setCell ⟨bw, 4, none⟩ (.int .i64 x)).setCell ⟨bw, 5, none⟩ (.slice none 0 0)).drew := by
 have hlt := (Array.getElem?_eq_some_iff.1 hbw).1
 have hk := kset wC bw 1 4 5 (.pointer (some ⟨br, 0, none⟩)) (.int .i64 x) (.slice none 0 0)
 have hsz := hk.size
 have hz := hA.b.size
 have hz2 := hs.b.size
 have hd : wr.drew.heap.size = wr.heap.size := rfl
 refine .inr (.inr ⟨rfl, b0, w0, _, br, wx, _, ?_, (hR0.since hs).step fun k hF hl => hk.same k hl (fun e => by have := (hF0 k hF).1; omega), fun k hF => ⟨(hF0 k hF).1, by have := (hF0 k hF).2; omega⟩, h80, (hR.since hA).step fun k hF hl => hk.same k hl (fun e => by have := hF.1; omega), fun k hF => ⟨by have := hF.1; omega, by have := hF.2; omega, fun h => by have := (hF0 k h).2; have := hF.1; omega⟩, h8⟩)
 have := set3 (blk hs.b hbw) 1 4 5 (.pointer (some ⟨br, 0, none⟩)) (.int .i64 x) (.slice none 0 0)
 rw [this, hx]
 rfl
set_option maxHeartbeats 16000000 in
set_option maxRecDepth 100000 in
theorem begun_calls (W : World) (x0 x1 : Int) (A0 : Option Addr) (c0 : Nat) (l0 : List Int) (h0 : Sl W A0 c0 l0) (A1 : Option Addr) (c1 : Nat) (l1 : List Int) (h1 : Sl W A1 c1 l1) :
  Calls Tryz.prog 33 #[.agg #[.int .i64 x0, .int .i64 x1], .agg #[.slice A0 l0.length c0, .slice A1 l1.length c1]] W (BegunQ W) := by
 have HS0 := Aside0.mk h0
 have HS1 := Aside0.mk h1
 obtain ⟨n0, hn0⟩ : ∃ n, n = l0.length := ⟨_, rfl⟩
 obtain ⟨n1, hn1⟩ : ∃ n, n = l1.length := ⟨_, rfl⟩
 obtain ⟨W3, hW3⟩ : ∃ W3, W3 = ((W.alloc (.cells #[.int .i64 x0, .int .i64 x1] 55)).alloc (.cells #[.slice A0 n0 c0, .slice A1 n1 c1] 43)).alloc (.cells #[.pointer none, .pointer none, .int .i64 0, .slice none 0 0, .int .i64 0, .slice none 0 0] 90) := ⟨_, rfl⟩
 have b3 : Below W.heap.size W W3 := by rw [hW3]; exact below_alloc (below_alloc (below_alloc (Below.refl _ _) _) _) _
 have hsz3 : W3.heap.size = W.heap.size + 3 := by rw [hW3]; simp
 have k2 : W3.heap[W.heap.size]? = some (.cells #[.int .i64 x0, .int .i64 x1] 55 (0, 0)) := by
  rw [hW3]
  exact (Below.heap_alloc _ _ _ (by simp; omega)).trans ((Below.heap_alloc _ _ _ (by simp)).trans (heap_alloc_new W _))
 have k3 : W3.heap[W.heap.size + 1]? = some (.cells #[.slice A0 n0 c0, .slice A1 n1 c1] 43 (0, 0)) := by
  rw [hW3]
  have h := heap_alloc_new (W.alloc (.cells #[.int .i64 x0, .int .i64 x1] 55)) (.cells #[.slice A0 n0 c0, .slice A1 n1 c1] 43)
  rw [World.size_alloc] at h
  exact (Below.heap_alloc _ _ _ (by simp)).trans h
 have k4 : W3.heap[W.heap.size + 1 + 1]? = some (.cells #[.pointer none, .pointer none, .int .i64 0, .slice none 0 0, .int .i64 0, .slice none 0 0] 90 (0, 0)) := by
  rw [hW3]
  have h := heap_alloc_new ((W.alloc (.cells #[.int .i64 x0, .int .i64 x1] 55)).alloc (.cells #[.slice A0 n0 c0, .slice A1 n1 c1] 43)) (.cells #[.pointer none, .pointer none, .int .i64 0, .slice none 0 0, .int .i64 0, .slice none 0 0] 90)
  rw [World.size_alloc, World.size_alloc] at h
  exact h
 have HB3 := Aside0.mk b3
 have HW3 := Aside0.mk hW3
 have HNN := Aside0.mk (And.intro hn0 hn1)
 rw [← hn0, ← hn1]
 clear h0 h1 hn0 hn1 b3 hW3
 go_enter Tryz.func33, Tryz.ntmps33
 go_wp2_with fail
 rw [← HW3.out]
 obtain ⟨B2, hB2⟩ : ∃ b, b = W.heap.size := ⟨_, rfl⟩
 obtain ⟨B3, hB3⟩ : ∃ b, b = W.heap.size + 1 := ⟨_, rfl⟩
 obtain ⟨bw, hbw⟩ : ∃ b, b = W.heap.size + 1 + 1 := ⟨_, rfl⟩
 have HSZ : Aside0 (B2 = W.heap.size ∧ B3 = W.heap.size + 1 ∧ bw = W.heap.size + 2 ∧ W3.heap.size = W.heap.size + 3) := ⟨by omega⟩
 rw [← hB2] at k2
 rw [← hB3] at k3
 rw [← hbw] at k4
 rw [← hbw, ← hB3, ← hB2]
 have K2 := Aside0.mk k2
 have K3 := Aside0.mk k3
 have K4 := Aside0.mk k4
 clear hB2 hB3 hbw hsz3 k2 k3 k4
 go_loopg [12] 2 (fun gk v12 wr => ∃ i : Nat, v12 = .int .i64 (i : Int) ∧ Aside0 (i + gk = 2) ∧ Aside0 (BegS W bw i wr) ∧ Aside0 (Below W.heap.size W wr ∧ wr.heap[B2]? = some (.cells #[.int .i64 x0, .int .i64 x1] 55 (0, 0)) ∧ wr.heap[B3]? = some (.cells #[.slice A0 n0 c0, .slice A1 n1 c1] 43 (0, 0))))
 case atStart => exact ⟨0, rfl, ⟨by omega⟩, ⟨.inl ⟨rfl, K4.out⟩⟩, ⟨HB3.out, K2.out, K3.out⟩⟩
 case round =>
  obtain ⟨i, rfl, HI, HG, HL⟩ := hrel
  rcases HG.out with ⟨rfl, hb⟩ | ⟨rfl, hb⟩ | ⟨rfl, hb⟩
  ·have q2 : wr.cell? ⟨B2, 0, none⟩ = some (.int .i64 x0) := (Tup.cell_of_heap HL.out.2.1 0).trans rfl
   have q3 : wr.cell? ⟨B3, 0, none⟩ = some (.slice A0 n0 c0) := (Tup.cell_of_heap HL.out.2.2 0).trans rfl
   have HKP := Aside0.mk (show ∀ w', Since wr w' → (w'.cell? ⟨B2, 0, none⟩ = some (.int .i64 x0) ∧ w'.cell? ⟨B3, 0, none⟩ = some (.slice A0 n0 c0)) ∧ Since wr w' from fun w' hs => ⟨⟨pw_cell_below hs.b q2, pw_cell_below hs.b q3⟩, hs⟩)
   have HB := Aside0.mk hb
   have HBC := Aside0.mk (show ∀ w', Since wr w' → _ from fun w' hs => six_cells (blk hs.b hb))
   have HBF := Aside0.mk (show ∀ w', Since wr w' → ∀ j, w'.frozen? ⟨bw, j, none⟩ = false from fun w' hs j => free_of_heap (blk hs.b hb) j)
   have HLT := Aside0.mk (Array.getElem?_eq_some_iff.1 hb).1
   have hs0 : Since wr wr.drew := (Since.refl wr).drew
   clear hb
   have HN := Aside0.mk (fun (w : World) (hs : Since wr w) => new_both w x0 A0 c0 l0 (HS0.out.below (below_then HL.out.1 HL.out.1.size hs.b)))
   have HR := Aside0.mk (fun (w : World) (hs : Since wr w) => rnew_both w x0 A0 c0 l0 (HS0.out.below (below_then HL.out.1 HL.out.1.size hs.b)))
   rw [← HNN.out.1] at HN HR
   obtain ⟨z, hzz⟩ : ∃ z, z = rwrongS x0 l0 := ⟨_, rfl⟩
   rw [← hzz] at HN HR
   obtain ⟨v, hv⟩ : ∃ v, v = if z = 0 then x0 else 0 := ⟨_, rfl⟩
   rw [← hv] at HR
   have HV := Aside0.mk hv
   clear hzz hv
   go_wp2_with fail
   go_region_held3 (fun w' => (w'.cell? ⟨B2, 0, none⟩ = some (.int .i64 x0) ∧ w'.cell? ⟨B3, 0, none⟩ = some (.slice A0 n0 c0)) ∧ Since wr w')
    (first | exact HKP.out _ hs0 | (go_split_ands; first | exact HKP.out _ (by assumption) | exact HKP.out _ (Since.step (by assumption) (by assumption))))
    (first
    | (go_at_call 11; go_loud (refine (HN.out _ (by go_split_ands; first | assumption | exact (Since.refl _).drew)).mono ?_); rintro e wA ⟨p, rfl, hbA, HNP⟩))
   have HSA := Aside0.mk (show Since wr wA from by go_split_ands; first | assumption | exact Since.step (Since.refl _).drew hbA)
   clear hbA
   obtain ⟨⟨p2, p3⟩, _⟩ := HKP.out wA HSA.out
   go_wp2_with fail
   refine region_plain (S := fun w' => (w'.cell? ⟨B2, 0, none⟩ = some (.int .i64 x0) ∧ w'.cell? ⟨B3, 0, none⟩ = some (.slice A0 n0 c0)) ∧ Since wr w') (by kernel_rfl) (HKP.out _ HSA.out.drew) (fun hHeld => ?_)
   refine wpAnyH_take (i := 0) (v := ?_) rfl (by kernel_rfl) (by kernel_rfl) (by kernel_rfl) (fun _ _ _ h => h) (Or.inl ⟨by rfl, ?_⟩) hHeld ?_
   rotate_left
   ·intro w hSw; obtain ⟨⟨hSa, hSb⟩, hSc⟩ := hSw; go_simp; try with_reducible rfl
   try simp only [Act.put, List.setIfInBounds_toArray, List.set_cons_zero, List.set_cons_succ]
   refine wpAnyH_take (i := 1) (v := ?_) rfl (by kernel_rfl) (by kernel_rfl) (by kernel_rfl) (fun _ _ _ h => h) (Or.inl ⟨by rfl, ?_⟩) hHeld ?_
   rotate_left
   ·intro w hSw; obtain ⟨⟨hSa, hSb⟩, hSc⟩ := hSw; go_simp; try with_reducible rfl
   try simp only [Act.put, List.setIfInBounds_toArray, List.set_cons_zero, List.set_cons_succ]
   refine wpAnyH_take (i := 2) (v := ?_) rfl (by kernel_rfl) (by kernel_rfl) (by kernel_rfl) (fun _ _ _ h => h) (Or.inl ⟨by rfl, ?_⟩) hHeld ?_
   rotate_left
   ·intro w hSw; obtain ⟨⟨hSa, hSb⟩, hSc⟩ := hSw; go_simp; try with_reducible rfl
   try simp only [Act.put, List.setIfInBounds_toArray, List.set_cons_zero, List.set_cons_succ]
   refine wpAnyH_take (i := 3) (v := ?_) rfl (by kernel_rfl) (by kernel_rfl) (by kernel_rfl) (fun _ _ _ h => h) (Or.inl ⟨by rfl, ?_⟩) hHeld ?_
   rotate_left
   ·intro w hSw; obtain ⟨⟨hSa, hSb⟩, hSc⟩ := hSw; go_simp; try with_reducible rfl
   try simp only [Act.put, List.setIfInBounds_toArray, List.set_cons_zero, List.set_cons_succ]
   refine wpAnyH_take (i := 4) (v := ?_) rfl (by kernel_rfl) (by kernel_rfl) (by kernel_rfl) (fun _ _ _ h => h) (Or.inl ⟨by rfl, ?_⟩) hHeld ?_
   rotate_left
   ·intro w hSw; obtain ⟨⟨hSa, hSb⟩, hSc⟩ := hSw; go_simp; try with_reducible rfl
   try simp only [Act.put, List.setIfInBounds_toArray, List.set_cons_zero, List.set_cons_succ]
   refine wpAnyH_take (i := 5) (v := ?_) rfl (by kernel_rfl) (by kernel_rfl) (by kernel_rfl) (fun _ _ _ h => h) (Or.inl ⟨by rfl, ?_⟩) hHeld ?_
   rotate_left
   ·intro w hSw; obtain ⟨⟨hSa, hSb⟩, hSc⟩ := hSw; go_simp; try with_reducible rfl
   try simp only [Act.put, List.setIfInBounds_toArray, List.set_cons_zero, List.set_cons_succ]
   refine wpAnyH_ready (rs := [6, 10]) (by kernel_rfl) (by simp) ?_
   refine AllReadyH.cons rfl (fun K hK => ?_) (AllReadyH.cons rfl (fun K hK => ?_) AllReadyH.nil)
   ·go_simp
    go_wp2_with (go_at_call 26; go_loud (refine (HR.out _ (HSA.out.drew)).mono ?_); rintro e wB ⟨rfl, hbB⟩; have HSB := Aside0.mk (Since.step (HSA.out.drew) hbB); have HAB := Aside0.mk (Since.step ((Since.refl wA).drew) hbB); clear hbB)
    refine hK.out _ _ (HKP.out _ HSB.out) (fun hHeld => ?_)
    clear hK K
    try simp only [Act.put, List.setIfInBounds_toArray, List.set_cons_zero, List.set_cons_succ]
    refine wpAnyH_take (i := 7) (v := ?_) rfl (by kernel_rfl) (by kernel_rfl) (by kernel_rfl) (fun _ _ _ h => h) (Or.inl ⟨by rfl, ?_⟩) hHeld ?_
    rotate_left
    ·intro w hSw; obtain ⟨⟨hSa, hSb⟩, hSc⟩ := hSw; go_simp; try with_reducible rfl
    try simp only [Act.put, List.setIfInBounds_toArray, List.set_cons_zero, List.set_cons_succ]
    refine wpAnyH_take (i := 8) (v := ?_) rfl (by kernel_rfl) (by kernel_rfl) (by kernel_rfl) (fun _ _ _ h => h) (Or.inl ⟨by rfl, ?_⟩) hHeld ?_
    rotate_left
    ·intro w hSw; obtain ⟨⟨hSa, hSb⟩, hSc⟩ := hSw; go_simp; try with_reducible rfl
    try simp only [Act.put, List.setIfInBounds_toArray, List.set_cons_zero, List.set_cons_succ]
    refine wpAnyH_take (i := 9) (v := ?_) rfl (by kernel_rfl) (by kernel_rfl) (by kernel_rfl) (fun _ _ _ h => h) (Or.inl ⟨by rfl, ?_⟩) hHeld ?_
    rotate_left
    ·intro w hSw; obtain ⟨⟨hSa, hSb⟩, hSc⟩ := hSw; go_simp; try with_reducible rfl
    try simp only [Act.put, List.setIfInBounds_toArray, List.set_cons_zero, List.set_cons_succ]
    refine wpAnyH_ready (rs := [10]) (by kernel_rfl) (by simp) ?_
    refine AllReadyH.cons rfl (fun K hK => ?_) AllReadyH.nil
    go_simp
    refine hK.out _ _ (HKP.out _ (HSB.out.alloc _)) (fun hHeld => ?_)
    clear hK K
    try simp only [Act.put, List.setIfInBounds_toArray, List.set_cons_zero, List.set_cons_succ]
    refine wpAnyH_ready (rs := [11]) (by kernel_rfl) (by simp) ?_
    refine AllReadyH.cons rfl (fun K hK => ?_) AllReadyH.nil
    go_simp
    refine hK.out _ _ (HKP.out _ (HSB.out.alloc _)) (fun hHeld => ?_)
    clear hK K
    try simp only [Act.put, List.setIfInBounds_toArray, List.set_cons_zero, List.set_cons_succ]
    refine wpAnyH_ready (rs := [12]) (by kernel_rfl) (by simp) ?_
    refine AllReadyH.cons rfl (fun K hK => ?_) AllReadyH.nil
    go_simp
    refine hK.out _ _ (HKP.out _ (HSB.out.alloc _)) (fun hHeld => ?_)
    clear hK K
    try simp only [Act.put, List.setIfInBounds_toArray, List.set_cons_zero, List.set_cons_succ]
    refine wpAnyH_done (by kernel_rfl) ?_ _
    obtain ⟨wC, hwC⟩ : ∃ w, w = wB.alloc (.cells #[.int .i64 v, .slice none 0 0] 64) := ⟨_, rfl⟩
    have HSC := Aside0.mk (show Since wr wC from by rw [hwC]; exact HSB.out.alloc _)
    have HAC := Aside0.mk (show Since wA wC from by rw [hwC]; exact HAB.out.alloc _)
    have hyb : wC.heap[wB.heap.size]? = some (.cells #[.int .i64 v, .slice none 0 0] 64 (0, 0)) := by rw [hwC]; exact heap_alloc_new _ _
    rw [← hwC]
    obtain ⟨By, hBy⟩ : ∃ b, b = wB.heap.size := ⟨_, rfl⟩
    rw [← hBy] at hyb ⊢
    have hyn : By ≠ bw := by have := HLT.out; have := HSA.out.b.size; have := HSB.out.b.size; omega
    have hyn' : bw ≠ By := fun e => hyn e.symm
    clear hwC hBy
    rcases HNP.out with ⟨hz, rfl⟩ | ⟨rfl, br, wx, rfl, hxw, hw8, hRF⟩
    ·have y0 : (z != 0) = true := by simpa using hz
     have y1 : (z != z) = false := by simp
     have y2 : (z == 0) = false := by simpa using hz
     clear hz
     go_wp2_with fail
     go_ret2
     exact ⟨below_then HL.out.1 HL.out.1.size HSC.out.b, .inl rfl⟩
    ·have HRF := Aside0.mk (And.intro hxw (And.intro hw8 hRF))
     have hvx : v = x0 := by rw [HV.out, if_pos rfl]
     clear hxw hw8 hRF
     subst hvx
     obtain ⟨c0', c1', c2', c3', c4', c5'⟩ := HBC.out wC HSC.out
     have g0' := HBF.out wC HSC.out 0
     have g1' := HBF.out wC HSC.out 1
     have g2' := HBF.out wC HSC.out 2
     have g3' := HBF.out wC HSC.out 3
     have g4' := HBF.out wC HSC.out 4
     have g5' := HBF.out wC HSC.out 5
     have v0 : wC.cell? ⟨By, 0, none⟩ = some (.int .i64 v) := (Tup.cell_of_heap hyb 0).trans rfl
     have v1 : wC.cell? ⟨By, 1, none⟩ = some (.slice none 0 0) := (Tup.cell_of_heap hyb 1).trans rfl
     clear hyb
     go_wp2_with fail
     go_region
     all_goals go_wp2_with fail
     obtain ⟨k2, hk2⟩ : ∃ k2, k2 = gk - 1 := ⟨_, rfl⟩
     go_roundg k2
     case measure => have := HI.out; omega
     case rel =>
      have hkz := kset wC bw 0 2 3 (.pointer (some ⟨br, 0, none⟩)) (.int .i64 v) (.slice none 0 0)
      have hlw := HSC.out.b.size
      have hlt0 := HLT.out
      have hs3 := HSZ.out
      refine ⟨1, rfl, ⟨by have := HI.out; omega⟩, ⟨begs_step0 HB.out HSC.out HAC.out HRF.out.2.2 HRF.out.1 HRF.out.2.1⟩, ⟨hkz.below_of (below_then HL.out.1 HL.out.1.size HSC.out.b) (fun k hk e => by omega), (hkz.same B2 (by omega) (by omega)).trans (blk HSC.out.b HL.out.2.1), (hkz.same B3 (by omega) (by omega)).trans (blk HSC.out.b HL.out.2.2)⟩⟩
   ·go_simp
    refine hK.out _ _ (HKP.out _ (HSA.out.drew.alloc _)) (fun hHeld => ?_)
    clear hK K
    try simp only [Act.put, List.setIfInBounds_toArray, List.set_cons_zero, List.set_cons_succ]
    refine wpAnyH_ready (rs := [6]) (by kernel_rfl) (by simp) ?_
    refine AllReadyH.cons rfl (fun K hK => ?_) AllReadyH.nil
    go_simp
    go_wp2_with (go_at_call 26; go_loud (refine (HR.out _ (HSA.out.drew.alloc _)).mono ?_); rintro e wB ⟨rfl, hbB⟩; have hyz := blk hbB (heap_alloc_new wA.drew (.cells #[.int .i64 0, .slice none 0 0] 64)); have HSB := Aside0.mk (Since.step (HSA.out.drew.alloc _) hbB); have HAB := Aside0.mk (Since.step ((Since.refl wA).drew.alloc _) hbB); clear hbB)
    refine hK.out _ _ (HKP.out _ HSB.out) (fun hHeld => ?_)
    clear hK K
    try simp only [Act.put, List.setIfInBounds_toArray, List.set_cons_zero, List.set_cons_succ]
    refine wpAnyH_take (i := 7) (v := ?_) rfl (by kernel_rfl) (by kernel_rfl) (by kernel_rfl) (fun _ _ _ h => h) (Or.inl ⟨by rfl, ?_⟩) hHeld ?_
    rotate_left
    ·intro w hSw; obtain ⟨⟨hSa, hSb⟩, hSc⟩ := hSw; go_simp; try with_reducible rfl
    try simp only [Act.put, List.setIfInBounds_toArray, List.set_cons_zero, List.set_cons_succ]
    refine wpAnyH_take (i := 8) (v := ?_) rfl (by kernel_rfl) (by kernel_rfl) (by kernel_rfl) (fun _ _ _ h => h) (Or.inl ⟨by rfl, ?_⟩) hHeld ?_
    rotate_left
    ·intro w hSw; obtain ⟨⟨hSa, hSb⟩, hSc⟩ := hSw; go_simp; try with_reducible rfl
    try simp only [Act.put, List.setIfInBounds_toArray, List.set_cons_zero, List.set_cons_succ]
    refine wpAnyH_take (i := 9) (v := ?_) rfl (by kernel_rfl) (by kernel_rfl) (by kernel_rfl) (fun _ _ _ h => h) (Or.inl ⟨by rfl, ?_⟩) hHeld ?_
    rotate_left
    ·intro w hSw; obtain ⟨⟨hSa, hSb⟩, hSc⟩ := hSw; go_simp; try with_reducible rfl
    try simp only [Act.put, List.setIfInBounds_toArray, List.set_cons_zero, List.set_cons_succ]
    refine wpAnyH_ready (rs := [11]) (by kernel_rfl) (by simp) ?_
    refine AllReadyH.cons rfl (fun K hK => ?_) AllReadyH.nil
    have y0' : wB.cell? ⟨wA.heap.size, 0, none⟩ = some (.int .i64 0) := (Tup.cell_of_heap hyz 0).trans rfl
    have y1' : wB.cell? ⟨wA.heap.size, 1, none⟩ = some (.slice none 0 0) := (Tup.cell_of_heap hyz 1).trans rfl
    have yf0 : wB.frozen? ⟨wA.heap.size, 0, none⟩ = false := free_of_heap hyz 0
    have yf1 : wB.frozen? ⟨wA.heap.size, 1, none⟩ = false := free_of_heap hyz 1
    have HYZ := Aside0.mk hyz
    clear hyz
    go_simp
    have HSC := Aside0.mk (show Since wr ((wB.setCell ⟨wA.heap.size, 0, none⟩ (.int .i64 v)).setCell ⟨wA.heap.size, 1, none⟩ (.slice none 0 0)) from ⟨(HSB.out.b.setCell (p := ⟨wA.heap.size, 0, none⟩) HSA.out.b.size _).setCell (p := ⟨wA.heap.size, 1, none⟩) HSA.out.b.size _⟩)
    refine hK.out _ _ (HKP.out _ HSC.out) (fun hHeld => ?_)
    clear hK K
    try simp only [Act.put, List.setIfInBounds_toArray, List.set_cons_zero, List.set_cons_succ]
    refine wpAnyH_ready (rs := [12]) (by kernel_rfl) (by simp) ?_
    refine AllReadyH.cons rfl (fun K hK => ?_) AllReadyH.nil
    go_simp
    refine hK.out _ _ (HKP.out _ HSC.out) (fun hHeld => ?_)
    clear hK K
    try simp only [Act.put, List.setIfInBounds_toArray, List.set_cons_zero, List.set_cons_succ]
    refine wpAnyH_done (by kernel_rfl) ?_ _
    obtain ⟨wC, hwC⟩ : ∃ w, w = (wB.setCell ⟨wA.heap.size, 0, none⟩ (.int .i64 v)).setCell ⟨wA.heap.size, 1, none⟩ (.slice none 0 0) := ⟨_, rfl⟩
    have HAC := Aside0.mk (show Since wA wC from by rw [hwC]; exact ⟨(HAB.out.b.setCell (p := ⟨wA.heap.size, 0, none⟩) (Nat.le_refl _) _).setCell (p := ⟨wA.heap.size, 1, none⟩) (Nat.le_refl _) _⟩)
    have hyb : wC.heap[wA.heap.size]? = some (.cells #[.int .i64 v, .slice none 0 0] 64 (0, 0)) := by
     have h0 := heap_setCell_same wB wA.heap.size 0 _ _ (.int .i64 v) HYZ.out
     have h1 := heap_setCell_same _ wA.heap.size 1 _ _ (.slice none 0 0) h0
     rw [hwC]
     simpa using h1
    rw [← hwC] at HSC ⊢
    obtain ⟨By, hBy⟩ : ∃ b, b = wA.heap.size := ⟨_, rfl⟩
    rw [← hBy] at hyb ⊢
    have hyn : By ≠ bw := by have := HLT.out; have := HSA.out.b.size; have := HSB.out.b.size; omega
    have hyn' : bw ≠ By := fun e => hyn e.symm
    clear hwC hBy y0' y1' yf0 yf1 HYZ
    rcases HNP.out with ⟨hz, rfl⟩ | ⟨rfl, br, wx, rfl, hxw, hw8, hRF⟩
    ·have y0 : (z != 0) = true := by simpa using hz
     have y1 : (z != z) = false := by simp
     have y2 : (z == 0) = false := by simpa using hz
     clear hz
     go_wp2_with fail
     go_ret2
     exact ⟨below_then HL.out.1 HL.out.1.size HSC.out.b, .inl rfl⟩
    ·have HRF := Aside0.mk (And.intro hxw (And.intro hw8 hRF))
     have hvx : v = x0 := by rw [HV.out, if_pos rfl]
     clear hxw hw8 hRF
     subst hvx
     obtain ⟨c0', c1', c2', c3', c4', c5'⟩ := HBC.out wC HSC.out
     have g0' := HBF.out wC HSC.out 0
     have g1' := HBF.out wC HSC.out 1
     have g2' := HBF.out wC HSC.out 2
     have g3' := HBF.out wC HSC.out 3
     have g4' := HBF.out wC HSC.out 4
     have g5' := HBF.out wC HSC.out 5
     have v0 : wC.cell? ⟨By, 0, none⟩ = some (.int .i64 v) := (Tup.cell_of_heap hyb 0).trans rfl
     have v1 : wC.cell? ⟨By, 1, none⟩ = some (.slice none 0 0) := (Tup.cell_of_heap hyb 1).trans rfl
     clear hyb
     go_wp2_with fail
     go_region
     all_goals go_wp2_with fail
     obtain ⟨k2, hk2⟩ : ∃ k2, k2 = gk - 1 := ⟨_, rfl⟩
     go_roundg k2
     case measure => have := HI.out; omega
     case rel =>
      have hkz := kset wC bw 0 2 3 (.pointer (some ⟨br, 0, none⟩)) (.int .i64 v) (.slice none 0 0)
      have hlw := HSC.out.b.size
      have hlt0 := HLT.out
      have hs3 := HSZ.out
      refine ⟨1, rfl, ⟨by have := HI.out; omega⟩, ⟨begs_step0 HB.out HSC.out HAC.out HRF.out.2.2 HRF.out.1 HRF.out.2.1⟩, ⟨hkz.below_of (below_then HL.out.1 HL.out.1.size HSC.out.b) (fun k hk e => by omega), (hkz.same B2 (by omega) (by omega)).trans (blk HSC.out.b HL.out.2.1), (hkz.same B3 (by omega) (by omega)).trans (blk HSC.out.b HL.out.2.2)⟩⟩
  ·obtain ⟨b0, w0, F, hb, hRF0, hFl, hw08⟩ := hb
   have HF0 := Aside0.mk (And.intro hRF0 (And.intro hFl hw08))
   clear hRF0 hFl hw08
   have q2 : wr.cell? ⟨B2, 1, none⟩ = some (.int .i64 x1) := (Tup.cell_of_heap HL.out.2.1 1).trans rfl
   have q3 : wr.cell? ⟨B3, 1, none⟩ = some (.slice A1 n1 c1) := (Tup.cell_of_heap HL.out.2.2 1).trans rfl
   have HKP := Aside0.mk (show ∀ w', Since wr w' → (w'.cell? ⟨B2, 1, none⟩ = some (.int .i64 x1) ∧ w'.cell? ⟨B3, 1, none⟩ = some (.slice A1 n1 c1)) ∧ Since wr w' from fun w' hs => ⟨⟨pw_cell_below hs.b q2, pw_cell_below hs.b q3⟩, hs⟩)
   have HB := Aside0.mk hb
   have HBC := Aside0.mk (show ∀ w', Since wr w' → _ from fun w' hs => six_cells (blk hs.b hb))
   have HBF := Aside0.mk (show ∀ w', Since wr w' → ∀ j, w'.frozen? ⟨bw, j, none⟩ = false from fun w' hs j => free_of_heap (blk hs.b hb) j)
   have HLT := Aside0.mk (Array.getElem?_eq_some_iff.1 hb).1
   have hs0 : Since wr wr.drew := (Since.refl wr).drew
   clear hb
   have HN := Aside0.mk (fun (w : World) (hs : Since wr w) => new_both w x1 A1 c1 l1 (HS1.out.below (below_then HL.out.1 HL.out.1.size hs.b)))
   have HR := Aside0.mk (fun (w : World) (hs : Since wr w) => rnew_both w x1 A1 c1 l1 (HS1.out.below (below_then HL.out.1 HL.out.1.size hs.b)))
   rw [← HNN.out.2] at HN HR
   obtain ⟨z, hzz⟩ : ∃ z, z = rwrongS x1 l1 := ⟨_, rfl⟩
   rw [← hzz] at HN HR
   obtain ⟨v, hv⟩ : ∃ v, v = if z = 0 then x1 else 0 := ⟨_, rfl⟩
   rw [← hv] at HR
   have HV := Aside0.mk hv
   clear hzz hv
   go_wp2_with fail
   go_region_held3 (fun w' => (w'.cell? ⟨B2, 1, none⟩ = some (.int .i64 x1) ∧ w'.cell? ⟨B3, 1, none⟩ = some (.slice A1 n1 c1)) ∧ Since wr w')
    (first | exact HKP.out _ hs0 | (go_split_ands; first | exact HKP.out _ (by assumption) | exact HKP.out _ (Since.step (by assumption) (by assumption))))
    (first
    | (go_at_call 11; go_loud (refine (HN.out _ (by go_split_ands; first | assumption | exact (Since.refl _).drew)).mono ?_); rintro e wA ⟨p, rfl, hbA, HNP⟩))
   have HSA := Aside0.mk (show Since wr wA from by go_split_ands; first | assumption | exact Since.step (Since.refl _).drew hbA)
   clear hbA
   obtain ⟨⟨p2, p3⟩, _⟩ := HKP.out wA HSA.out
   go_wp2_with fail
   refine region_plain (S := fun w' => (w'.cell? ⟨B2, 1, none⟩ = some (.int .i64 x1) ∧ w'.cell? ⟨B3, 1, none⟩ = some (.slice A1 n1 c1)) ∧ Since wr w') (by kernel_rfl) (HKP.out _ HSA.out.drew) (fun hHeld => ?_)
   refine wpAnyH_take (i := 0) (v := ?_) rfl (by kernel_rfl) (by kernel_rfl) (by kernel_rfl) (fun _ _ _ h => h) (Or.inl ⟨by rfl, ?_⟩) hHeld ?_
   rotate_left
   ·intro w hSw; obtain ⟨⟨hSa, hSb⟩, hSc⟩ := hSw; go_simp; try with_reducible rfl
   try simp only [Act.put, List.setIfInBounds_toArray, List.set_cons_zero, List.set_cons_succ]
   refine wpAnyH_take (i := 1) (v := ?_) rfl (by kernel_rfl) (by kernel_rfl) (by kernel_rfl) (fun _ _ _ h => h) (Or.inl ⟨by rfl, ?_⟩) hHeld ?_
   rotate_left
   ·intro w hSw; obtain ⟨⟨hSa, hSb⟩, hSc⟩ := hSw; go_simp; try with_reducible rfl
   try simp only [Act.put, List.setIfInBounds_toArray, List.set_cons_zero, List.set_cons_succ]
   refine wpAnyH_take (i := 2) (v := ?_) rfl (by kernel_rfl) (by kernel_rfl) (by kernel_rfl) (fun _ _ _ h => h) (Or.inl ⟨by rfl, ?_⟩) hHeld ?_
   rotate_left
   ·intro w hSw; obtain ⟨⟨hSa, hSb⟩, hSc⟩ := hSw; go_simp; try with_reducible rfl
   try simp only [Act.put, List.setIfInBounds_toArray, List.set_cons_zero, List.set_cons_succ]
   refine wpAnyH_take (i := 3) (v := ?_) rfl (by kernel_rfl) (by kernel_rfl) (by kernel_rfl) (fun _ _ _ h => h) (Or.inl ⟨by rfl, ?_⟩) hHeld ?_
   rotate_left
   ·intro w hSw; obtain ⟨⟨hSa, hSb⟩, hSc⟩ := hSw; go_simp; try with_reducible rfl
   try simp only [Act.put, List.setIfInBounds_toArray, List.set_cons_zero, List.set_cons_succ]
   refine wpAnyH_take (i := 4) (v := ?_) rfl (by kernel_rfl) (by kernel_rfl) (by kernel_rfl) (fun _ _ _ h => h) (Or.inl ⟨by rfl, ?_⟩) hHeld ?_
   rotate_left
   ·intro w hSw; obtain ⟨⟨hSa, hSb⟩, hSc⟩ := hSw; go_simp; try with_reducible rfl
   try simp only [Act.put, List.setIfInBounds_toArray, List.set_cons_zero, List.set_cons_succ]
   refine wpAnyH_take (i := 5) (v := ?_) rfl (by kernel_rfl) (by kernel_rfl) (by kernel_rfl) (fun _ _ _ h => h) (Or.inl ⟨by rfl, ?_⟩) hHeld ?_
   rotate_left
   ·intro w hSw; obtain ⟨⟨hSa, hSb⟩, hSc⟩ := hSw; go_simp; try with_reducible rfl
   try simp only [Act.put, List.setIfInBounds_toArray, List.set_cons_zero, List.set_cons_succ]
   refine wpAnyH_ready (rs := [6, 10]) (by kernel_rfl) (by simp) ?_
   refine AllReadyH.cons rfl (fun K hK => ?_) (AllReadyH.cons rfl (fun K hK => ?_) AllReadyH.nil)
   ·go_simp
    go_wp2_with (go_at_call 26; go_loud (refine (HR.out _ (HSA.out.drew)).mono ?_); rintro e wB ⟨rfl, hbB⟩; have HSB := Aside0.mk (Since.step (HSA.out.drew) hbB); have HAB := Aside0.mk (Since.step ((Since.refl wA).drew) hbB); clear hbB)
    refine hK.out _ _ (HKP.out _ HSB.out) (fun hHeld => ?_)
    clear hK K
    try simp only [Act.put, List.setIfInBounds_toArray, List.set_cons_zero, List.set_cons_succ]
    refine wpAnyH_take (i := 7) (v := ?_) rfl (by kernel_rfl) (by kernel_rfl) (by kernel_rfl) (fun _ _ _ h => h) (Or.inl ⟨by rfl, ?_⟩) hHeld ?_
    rotate_left
    ·intro w hSw; obtain ⟨⟨hSa, hSb⟩, hSc⟩ := hSw; go_simp; try with_reducible rfl
    try simp only [Act.put, List.setIfInBounds_toArray, List.set_cons_zero, List.set_cons_succ]
    refine wpAnyH_take (i := 8) (v := ?_) rfl (by kernel_rfl) (by kernel_rfl) (by kernel_rfl) (fun _ _ _ h => h) (Or.inl ⟨by rfl, ?_⟩) hHeld ?_
    rotate_left
    ·intro w hSw; obtain ⟨⟨hSa, hSb⟩, hSc⟩ := hSw; go_simp; try with_reducible rfl
    try simp only [Act.put, List.setIfInBounds_toArray, List.set_cons_zero, List.set_cons_succ]
    refine wpAnyH_take (i := 9) (v := ?_) rfl (by kernel_rfl) (by kernel_rfl) (by kernel_rfl) (fun _ _ _ h => h) (Or.inl ⟨by rfl, ?_⟩) hHeld ?_
    rotate_left
    ·intro w hSw; obtain ⟨⟨hSa, hSb⟩, hSc⟩ := hSw; go_simp; try with_reducible rfl
    try simp only [Act.put, List.setIfInBounds_toArray, List.set_cons_zero, List.set_cons_succ]
    refine wpAnyH_ready (rs := [10]) (by kernel_rfl) (by simp) ?_
    refine AllReadyH.cons rfl (fun K hK => ?_) AllReadyH.nil
    go_simp
    refine hK.out _ _ (HKP.out _ (HSB.out.alloc _)) (fun hHeld => ?_)
    clear hK K
    try simp only [Act.put, List.setIfInBounds_toArray, List.set_cons_zero, List.set_cons_succ]
    refine wpAnyH_ready (rs := [11]) (by kernel_rfl) (by simp) ?_
    refine AllReadyH.cons rfl (fun K hK => ?_) AllReadyH.nil
    go_simp
    refine hK.out _ _ (HKP.out _ (HSB.out.alloc _)) (fun hHeld => ?_)
    clear hK K
    try simp only [Act.put, List.setIfInBounds_toArray, List.set_cons_zero, List.set_cons_succ]
    refine wpAnyH_ready (rs := [12]) (by kernel_rfl) (by simp) ?_
    refine AllReadyH.cons rfl (fun K hK => ?_) AllReadyH.nil
    go_simp
    refine hK.out _ _ (HKP.out _ (HSB.out.alloc _)) (fun hHeld => ?_)
    clear hK K
    try simp only [Act.put, List.setIfInBounds_toArray, List.set_cons_zero, List.set_cons_succ]
    refine wpAnyH_done (by kernel_rfl) ?_ _
    obtain ⟨wC, hwC⟩ : ∃ w, w = wB.alloc (.cells #[.int .i64 v, .slice none 0 0] 64) := ⟨_, rfl⟩
    have HSC := Aside0.mk (show Since wr wC from by rw [hwC]; exact HSB.out.alloc _)
    have HAC := Aside0.mk (show Since wA wC from by rw [hwC]; exact HAB.out.alloc _)
    have hyb : wC.heap[wB.heap.size]? = some (.cells #[.int .i64 v, .slice none 0 0] 64 (0, 0)) := by rw [hwC]; exact heap_alloc_new _ _
    rw [← hwC]
    obtain ⟨By, hBy⟩ : ∃ b, b = wB.heap.size := ⟨_, rfl⟩
    rw [← hBy] at hyb ⊢
    have hyn : By ≠ bw := by have := HLT.out; have := HSA.out.b.size; have := HSB.out.b.size; omega
    have hyn' : bw ≠ By := fun e => hyn e.symm
    clear hwC hBy
    rcases HNP.out with ⟨hz, rfl⟩ | ⟨rfl, br, wx, rfl, hxw, hw8, hRF⟩
    ·have y0 : (z != 0) = true := by simpa using hz
     have y1 : (z != z) = false := by simp
     have y2 : (z == 0) = false := by simpa using hz
     clear hz
     go_wp2_with fail
     go_ret2
     exact ⟨below_then HL.out.1 HL.out.1.size HSC.out.b, .inl rfl⟩
    ·have HRF := Aside0.mk (And.intro hxw (And.intro hw8 hRF))
     have hvx : v = x1 := by rw [HV.out, if_pos rfl]
     clear hxw hw8 hRF
     subst hvx
     obtain ⟨c0', c1', c2', c3', c4', c5'⟩ := HBC.out wC HSC.out
     have g0' := HBF.out wC HSC.out 0
     have g1' := HBF.out wC HSC.out 1
     have g2' := HBF.out wC HSC.out 2
     have g3' := HBF.out wC HSC.out 3
     have g4' := HBF.out wC HSC.out 4
     have g5' := HBF.out wC HSC.out 5
     have v0 : wC.cell? ⟨By, 0, none⟩ = some (.int .i64 v) := (Tup.cell_of_heap hyb 0).trans rfl
     have v1 : wC.cell? ⟨By, 1, none⟩ = some (.slice none 0 0) := (Tup.cell_of_heap hyb 1).trans rfl
     clear hyb
     go_wp2_with fail
     go_region
     all_goals go_wp2_with fail
     obtain ⟨k2, hk2⟩ : ∃ k2, k2 = gk - 1 := ⟨_, rfl⟩
     go_roundg k2
     case measure => have := HI.out; omega
     case rel =>
      have hkz := kset wC bw 1 4 5 (.pointer (some ⟨br, 0, none⟩)) (.int .i64 v) (.slice none 0 0)
      have hlw := HSC.out.b.size
      have hlt0 := HLT.out
      have hs3 := HSZ.out
      refine ⟨2, rfl, ⟨by have := HI.out; omega⟩, ⟨begs_step1 HB.out HSC.out HAC.out HRF.out.2.2 HRF.out.1 HRF.out.2.1 HF0.out.1 HF0.out.2.1 HF0.out.2.2⟩, ⟨hkz.below_of (below_then HL.out.1 HL.out.1.size HSC.out.b) (fun k hk e => by omega), (hkz.same B2 (by omega) (by omega)).trans (blk HSC.out.b HL.out.2.1), (hkz.same B3 (by omega) (by omega)).trans (blk HSC.out.b HL.out.2.2)⟩⟩
   ·go_simp
    refine hK.out _ _ (HKP.out _ (HSA.out.drew.alloc _)) (fun hHeld => ?_)
    clear hK K
    try simp only [Act.put, List.setIfInBounds_toArray, List.set_cons_zero, List.set_cons_succ]
    refine wpAnyH_ready (rs := [6]) (by kernel_rfl) (by simp) ?_
    refine AllReadyH.cons rfl (fun K hK => ?_) AllReadyH.nil
    go_simp
    go_wp2_with (go_at_call 26; go_loud (refine (HR.out _ (HSA.out.drew.alloc _)).mono ?_); rintro e wB ⟨rfl, hbB⟩; have hyz := blk hbB (heap_alloc_new wA.drew (.cells #[.int .i64 0, .slice none 0 0] 64)); have HSB := Aside0.mk (Since.step (HSA.out.drew.alloc _) hbB); have HAB := Aside0.mk (Since.step ((Since.refl wA).drew.alloc _) hbB); clear hbB)
    refine hK.out _ _ (HKP.out _ HSB.out) (fun hHeld => ?_)
    clear hK K
    try simp only [Act.put, List.setIfInBounds_toArray, List.set_cons_zero, List.set_cons_succ]
    refine wpAnyH_take (i := 7) (v := ?_) rfl (by kernel_rfl) (by kernel_rfl) (by kernel_rfl) (fun _ _ _ h => h) (Or.inl ⟨by rfl, ?_⟩) hHeld ?_
    rotate_left
    ·intro w hSw; obtain ⟨⟨hSa, hSb⟩, hSc⟩ := hSw; go_simp; try with_reducible rfl
    try simp only [Act.put, List.setIfInBounds_toArray, List.set_cons_zero, List.set_cons_succ]
    refine wpAnyH_take (i := 8) (v := ?_) rfl (by kernel_rfl) (by kernel_rfl) (by kernel_rfl) (fun _ _ _ h => h) (Or.inl ⟨by rfl, ?_⟩) hHeld ?_
    rotate_left
    ·intro w hSw; obtain ⟨⟨hSa, hSb⟩, hSc⟩ := hSw; go_simp; try with_reducible rfl
    try simp only [Act.put, List.setIfInBounds_toArray, List.set_cons_zero, List.set_cons_succ]
    refine wpAnyH_take (i := 9) (v := ?_) rfl (by kernel_rfl) (by kernel_rfl) (by kernel_rfl) (fun _ _ _ h => h) (Or.inl ⟨by rfl, ?_⟩) hHeld ?_
    rotate_left
    ·intro w hSw; obtain ⟨⟨hSa, hSb⟩, hSc⟩ := hSw; go_simp; try with_reducible rfl
    try simp only [Act.put, List.setIfInBounds_toArray, List.set_cons_zero, List.set_cons_succ]
    refine wpAnyH_ready (rs := [11]) (by kernel_rfl) (by simp) ?_
    refine AllReadyH.cons rfl (fun K hK => ?_) AllReadyH.nil
    have y0' : wB.cell? ⟨wA.heap.size, 0, none⟩ = some (.int .i64 0) := (Tup.cell_of_heap hyz 0).trans rfl
    have y1' : wB.cell? ⟨wA.heap.size, 1, none⟩ = some (.slice none 0 0) := (Tup.cell_of_heap hyz 1).trans rfl
    have yf0 : wB.frozen? ⟨wA.heap.size, 0, none⟩ = false := free_of_heap hyz 0
    have yf1 : wB.frozen? ⟨wA.heap.size, 1, none⟩ = false := free_of_heap hyz 1
    have HYZ := Aside0.mk hyz
    clear hyz
    go_simp
    have HSC := Aside0.mk (show Since wr ((wB.setCell ⟨wA.heap.size, 0, none⟩ (.int .i64 v)).setCell ⟨wA.heap.size, 1, none⟩ (.slice none 0 0)) from ⟨(HSB.out.b.setCell (p := ⟨wA.heap.size, 0, none⟩) HSA.out.b.size _).setCell (p := ⟨wA.heap.size, 1, none⟩) HSA.out.b.size _⟩)
    refine hK.out _ _ (HKP.out _ HSC.out) (fun hHeld => ?_)
    clear hK K
    try simp only [Act.put, List.setIfInBounds_toArray, List.set_cons_zero, List.set_cons_succ]
    refine wpAnyH_ready (rs := [12]) (by kernel_rfl) (by simp) ?_
    refine AllReadyH.cons rfl (fun K hK => ?_) AllReadyH.nil
    go_simp
    refine hK.out _ _ (HKP.out _ HSC.out) (fun hHeld => ?_)
    clear hK K
    try simp only [Act.put, List.setIfInBounds_toArray, List.set_cons_zero, List.set_cons_succ]
    refine wpAnyH_done (by kernel_rfl) ?_ _
    obtain ⟨wC, hwC⟩ : ∃ w, w = (wB.setCell ⟨wA.heap.size, 0, none⟩ (.int .i64 v)).setCell ⟨wA.heap.size, 1, none⟩ (.slice none 0 0) := ⟨_, rfl⟩
    have HAC := Aside0.mk (show Since wA wC from by rw [hwC]; exact ⟨(HAB.out.b.setCell (p := ⟨wA.heap.size, 0, none⟩) (Nat.le_refl _) _).setCell (p := ⟨wA.heap.size, 1, none⟩) (Nat.le_refl _) _⟩)
    have hyb : wC.heap[wA.heap.size]? = some (.cells #[.int .i64 v, .slice none 0 0] 64 (0, 0)) := by
     have h0 := heap_setCell_same wB wA.heap.size 0 _ _ (.int .i64 v) HYZ.out
     have h1 := heap_setCell_same _ wA.heap.size 1 _ _ (.slice none 0 0) h0
     rw [hwC]
     simpa using h1
    rw [← hwC] at HSC ⊢
    obtain ⟨By, hBy⟩ : ∃ b, b = wA.heap.size := ⟨_, rfl⟩
    rw [← hBy] at hyb ⊢
    have hyn : By ≠ bw := by have := HLT.out; have := HSA.out.b.size; have := HSB.out.b.size; omega
    have hyn' : bw ≠ By := fun e => hyn e.symm
    clear hwC hBy y0' y1' yf0 yf1 HYZ
    rcases HNP.out with ⟨hz, rfl⟩ | ⟨rfl, br, wx, rfl, hxw, hw8, hRF⟩
    ·have y0 : (z != 0) = true := by simpa using hz
     have y1 : (z != z) = false := by simp
     have y2 : (z == 0) = false := by simpa using hz
     clear hz
     go_wp2_with fail
     go_ret2
     exact ⟨below_then HL.out.1 HL.out.1.size HSC.out.b, .inl rfl⟩
    ·have HRF := Aside0.mk (And.intro hxw (And.intro hw8 hRF))
     have hvx : v = x1 := by rw [HV.out, if_pos rfl]
     clear hxw hw8 hRF
     subst hvx
     obtain ⟨c0', c1', c2', c3', c4', c5'⟩ := HBC.out wC HSC.out
     have g0' := HBF.out wC HSC.out 0
     have g1' := HBF.out wC HSC.out 1
     have g2' := HBF.out wC HSC.out 2
     have g3' := HBF.out wC HSC.out 3
     have g4' := HBF.out wC HSC.out 4
     have g5' := HBF.out wC HSC.out 5
     have v0 : wC.cell? ⟨By, 0, none⟩ = some (.int .i64 v) := (Tup.cell_of_heap hyb 0).trans rfl
     have v1 : wC.cell? ⟨By, 1, none⟩ = some (.slice none 0 0) := (Tup.cell_of_heap hyb 1).trans rfl
     clear hyb
     go_wp2_with fail
     go_region
     all_goals go_wp2_with fail
     obtain ⟨k2, hk2⟩ : ∃ k2, k2 = gk - 1 := ⟨_, rfl⟩
     go_roundg k2
     case measure => have := HI.out; omega
     case rel =>
      have hkz := kset wC bw 1 4 5 (.pointer (some ⟨br, 0, none⟩)) (.int .i64 v) (.slice none 0 0)
      have hlw := HSC.out.b.size
      have hlt0 := HLT.out
      have hs3 := HSZ.out
      refine ⟨2, rfl, ⟨by have := HI.out; omega⟩, ⟨begs_step1 HB.out HSC.out HAC.out HRF.out.2.2 HRF.out.1 HRF.out.2.1 HF0.out.1 HF0.out.2.1 HF0.out.2.2⟩, ⟨hkz.below_of (below_then HL.out.1 HL.out.1.size HSC.out.b) (fun k hk e => by omega), (hkz.same B2 (by omega) (by omega)).trans (blk HSC.out.b HL.out.2.1), (hkz.same B3 (by omega) (by omega)).trans (blk HSC.out.b HL.out.2.2)⟩⟩
  ·have HB := Aside0.mk hb
   have hg0 : gk = 0 := by have := HI.out; omega
   clear hb hg0
   go_wp2_with fail
   go_ret2
   exact ⟨HL.out.1, .inr ⟨bw, by have := HSZ.out; omega, rfl, .inr (.inr ⟨rfl, HB.out⟩)⟩⟩
end Go.Proofs.YtcmllllbmgcnlaaGreat.Rl
end
