/- Own texts, joined and cut to what the claim stands on: ChOrders, ChWrong, ChOrders2, ChOrders3, ChPick2, ChRw. -/
import Derived.Test.YtcmllllbmgcnlaaGreatU24
import Derived.Test.YtcmllllbmgcnlaaGreatU23
section
namespace Go.Proofs.YtcmllllbmgcnlaaGreat.Ch
open Go.RowKit Go.Deep Go.Proofs.YtcmllllbmgcnlaaGreat.G Go.Proofs.YtcmllllbmgcnlaaGreat.Tup Go.Proofs.YtcmllllbmgcnlaaGreatW.PrintWords Go.Proofs.YtcmllllbmgcnlaaGreatW.PrintLast Go.Proofs.YtcmllllbmgcnlaaGreatW.PrintMore
set_option linter.unusedVariables false
set_option linter.unusedSimpArgs false
structure Kp (w w1 : World) (rvs : List Value) (i : Nat) (wr : World) : Prop where
 below : Below w.heap.size w wr
 size : w1.heap.size ≤ wr.heap.size
 kept : ∀ k, k < w1.heap.size → (∀ j (h : j < rvs.length), j < i → some k ≠ rvs[j].ownBlock) → wr.heap[k]? = w1.heap[k]?
section
variable {w w1 wr w2 : World} {rvs ovs : List Value} {rows os : List (List Int)} {i : Nat} {v7 v10 v39 v : Value} {o r : List Int}
theorem Kp.start (h : Below w.heap.size w w1) : Kp w w1 rvs 0 w1 := ⟨h, Nat.le_refl _, fun _ _ _ => rfl⟩
theorem Kp.later (h : Kp w w1 rvs i wr) (hw : w.heap.size ≤ w1.heap.size) (hb : Below w1.heap.size wr w2) : Kp w w1 rvs i w2 :=
 ⟨h.below.trans (hb.mono hw), Nat.le_trans h.size hb.size, fun k hk hj => (hb.block k hk).trans (h.kept k hk hj)⟩
theorem Kp.drewN (h : Kp w w1 rvs i wr) (m : Nat) : Kp w w1 rvs i (wr.drewN m) := ⟨pw_below_drewN h.below m, h.size, h.kept⟩
theorem Kp.row (h : Kp w w1 rvs i wr) (hR : Rw w1 w.heap.size v rvs rows) (h1 : i < rvs.length) (h2 : i < rows.length) : Ow wr w.heap.size rvs[i] rows[i] := by
 refine own_move (hR.els i h1 h2) fun k hk => h.kept k (own_lt (hR.els i h1 h2) k hk) fun j hj hji e => ?_
 have := List.pairwise_iff_getElem.1 hR.apart j i hj h1 hji
 exact this k e.symm hk
theorem Kp.cell (h : Kp w w1 rvs i wr) (hR : Rw w1 w.heap.size v rvs rows) (j : Nat) (hj : j < rvs.length) : ∃ g cap, v = .slice (some ⟨g, 0, none⟩) rvs.length cap ∧ wr.cell? ⟨g, j, none⟩ = some rvs[j] := by
 rcases hR.own.2 with ⟨_, h0⟩ | ⟨g, cap, cur, e, hg, hh, h1, h2, h3, h4⟩
 ·omega
 ·refine ⟨g, cap, e, ?_⟩
  have hk : wr.heap[g]? = w1.heap[g]? := h.kept g (blk_lt hh) fun q hq _ e' => by
   have := own_type_ne (hR.els q hq (by rw [← hR.len]; exact hq)) hR.own (by decide)
   rcases this with h5 | h5
   ·rw [h5] at e'; cases e'
   ·rw [e] at h5; exact h5 (by rw [← e']; rfl)
  rw [cell_of_row wr g j cur _ (0, 0) (hk.trans hh)]
  rw [Nat.mul_one] at h4
  have h6 : rvs[j]? = some rvs[j] := List.getElem?_eq_getElem hj
  have h7 : (cur.toList.take rvs.length)[j]? = some rvs[j] := by rw [h4]; exact h6
  rw [List.getElem?_take_of_lt hj, Array.getElem?_toList] at h7
  exact h7
structure OI (w w1 : World) (rvs : List Value) (i : Nat) (wr : World) (v7 : Value) (ovs : List Value) (os : List (List Int)) (v10 : Value) (o : List Int) (v39 : Value) (r : List Int) : Prop where
 kp : Kp w w1 rvs (i + 1) wr
 hw : w.heap.size ≤ w1.heap.size
 rg : Rg wr w1.heap.size v7 ovs os v10 o
 ow : Ow wr w.heap.size v39 r
 ne : NeRow v10 v39
theorem OI.drewN (h : OI w w1 rvs i wr v7 ovs os v10 o v39 r) (m : Nat) : OI w w1 rvs i (wr.drewN m) v7 ovs os v10 o v39 r :=
 ⟨h.kp.drewN m, h.hw, h.rg.below (pw_below_drewN (Below.refl _ _) m), pw_own_below h.ow (pw_below_drewN (Below.refl _ _) m), h.ne⟩
theorem OI.more (h : OI w w1 rvs i wr v7 ovs os v10 o v39 r) {u1 : Value} {x : Int} (ho : w2.ownsRow w1.heap.size 3 1 u1 (o.map (Value.int .i64) ++ [Value.int .i64 x]).length (o.map (Value.int .i64) ++ [Value.int .i64 x])) (hb : Below w1.heap.size wr w2) (hg : wr.grownBy w2 v10.ownBlock) (hat : u1.ownBlock = v10.ownBlock ∨ ∃ b, u1.ownBlock = some b ∧ wr.heap.size ≤ b) : OI w w1 rvs i w2 v7 ovs os u1 (o ++ [x]) v39 r :=
 ⟨h.kp.later h.hw hb, h.hw, h.rg.more ho hg hat, own_other h.ow hg (ne_other h.ne), ne_append h.ne hat h.ow⟩
theorem OI.snoc (h : OI w w1 rvs i wr v7 ovs os v10 o v39 r) {v8 : Value} (ho : w2.ownsRow w1.heap.size 23 1 v8 (ovs ++ [v10]).length (ovs ++ [v10])) (hb : Below w1.heap.size wr w2) (hg : wr.grownBy w2 v7.ownBlock) : Kp w w1 rvs (i + 1) w2 ∧ Rw w2 w1.heap.size v8 (ovs ++ [v10]) (os ++ [o]) :=
 ⟨h.kp.later h.hw hb, h.rg.snoc ho hg⟩
theorem oi_start (hk : Kp w w1 rvs i wr) (hw : w.heap.size ≤ w1.heap.size) (hR : Rw w1 w.heap.size v rvs rows) (h1 : i < rvs.length) (h2 : i < rows.length) (hO : Rw wr w1.heap.size v7 ovs os) (r9 : Value) (h9 : r9 = rvs[i]) {x : Int} {q : List Int} (hq : q = rows[i])
  (ho : w2.ownsRow w.heap.size 3 1 v39 (q.map (Value.int .i64) ++ [Value.int .i64 x]).length (q.map (Value.int .i64) ++ [Value.int .i64 x])) (hb : Below w.heap.size w w2) (hg : (wr.alloc (.cells #[] 3)).grownBy w2 r9.ownBlock) (hat : v39.ownBlock = r9.ownBlock ∨ ∃ b, v39.ownBlock = some b ∧ (wr.alloc (.cells #[] 3)).heap.size ≤ b) :
  OI w w1 rvs i w2 v7 ovs os (.slice (some ⟨wr.heap.size, 0, none⟩) 0 0) [] v39 (q ++ [x]) := by
 have hsz : (wr.alloc (.cells #[] 3)).heap.size = wr.heap.size + 1 := by simp
 have hrow := hR.els i h1 h2
 have h9lt : ∀ k, r9.ownBlock = some k → k < w1.heap.size := fun k e => own_lt hrow k (by rw [← h9]; exact e)
 have hO1 : Rw (wr.alloc (.cells #[] 3)) w1.heap.size v7 ovs os := hO.below (below_alloc (Below.refl _ _) _)
 have hfar : ∀ {e s n : Nat} {y : Value} {xs : List Value} {W : World}, W.ownsRow w1.heap.size e s y n xs → y.ownBlock = none ∨ y.ownBlock ≠ r9.ownBlock := fun {e s n y xs W} hy => by
  cases hb : y.ownBlock with
  | none => exact .inl rfl
  | some b =>
   refine .inr fun e' => ?_
   have h3 := own_base hy b hb
   have h4 := h9lt b e'.symm
   omega
 have hord : Ow (wr.alloc (.cells #[] 3)) w1.heap.size (.slice (some ⟨wr.heap.size, 0, none⟩) 0 0) [] :=
  ⟨rfl, .inr ⟨wr.heap.size, 0, #[], rfl, hk.size, heap_alloc_new wr _, Nat.le_refl _, by decide, rfl, rfl⟩⟩
 refine ⟨⟨hb, by have := hg.size; have := hk.size; omega, fun k hkl hj => ?_⟩, hw, ⟨hO1.grown hg (hfar hO1.own) fun x hx => ?_, own_other hord hg (hfar hord), fun x hx => ?_⟩, ?_, ?_⟩
 ·have hks : k < wr.heap.size := by have := hk.size; omega
  have h3 : some k ≠ r9.ownBlock := by rw [h9]; exact hj i h1 (by omega)
  rw [hg.block k (by omega) h3, Below.heap_alloc _ _ _ hks]
  exact hk.kept k hkl fun j hjl hji => hj j hjl (by omega)
 ·obtain ⟨_, hx'⟩ := hO1.mem x hx
  exact hfar hx'
 ·obtain ⟨_, hx'⟩ := hO.mem x hx
  intro k hk1 hk2
  have h3 : wr.heap.size = k := by simpa [Value.ownBlock] using hk1
  have := own_lt hx' k hk2
  omega
 ·unfold Ow; simpa using ho
 ·intro k hk1 hk2
  have h3 : wr.heap.size = k := by simpa [Value.ownBlock] using hk1
  rcases hat with e | ⟨b, e, hb'⟩
  ·rw [e] at hk2
   have := h9lt k hk2
   have := hk.size
   omega
  ·rw [e] at hk2
   injection hk2 with hk2
   omega
end
end Go.Proofs.YtcmllllbmgcnlaaGreat.Ch
end
section
namespace Go.Proofs.YtcmllllbmgcnlaaGreat.Ch
open Go.RowKit Go.Deep Go.Proofs.YtcmllllbmgcnlaaGreat.G Go.Proofs.YtcmllllbmgcnlaaGreat.Tup Go.Proofs.YtcmllllbmgcnlaaGreatW.PrintWords Go.Proofs.YtcmllllbmgcnlaaGreatW.PrintLast Go.Proofs.YtcmllllbmgcnlaaGreatW.PrintMore
set_option linter.unusedVariables false
set_option linter.unusedSimpArgs false
def rwrongS (width : Int) (l : List Int) : Int := if width < 0 ∨ 8 < width then 1 else wrongS width l
set_option maxHeartbeats 4000000 in
set_option maxRecDepth 100000 in
theorem rwrong_width (width : Int) (A : Option Addr) (c n : Nat) (w : World) (h : width < 0 ∨ 8 < width) :
  Calls Tryz.prog 55 #[.int .i64 width, .slice A n c] w fun e w' => e = .returned (.int .i64 1) ∧ Below w.heap.size w w' := by
 by_cases h0 : width < 0
 ·have hd : decide (width < 0) = true := decide_eq_true h0
  clear h
  go_enter Tryz.func55, Tryz.ntmps55
  go_wp2
  go_ret
  exact ⟨rfl, Below.refl _ _⟩
 ·have hd : decide (width < 0) = false := decide_eq_false h0
  have h8 : width > 8 := h.resolve_left h0
  have hd2 : decide (width > 8) = true := decide_eq_true h8
  clear h
  go_enter Tryz.func55, Tryz.ntmps55
  go_wp2
  go_ret
  exact ⟨rfl, Below.refl _ _⟩
def WrI (width : Nat) (l : List Int) (y0 z : Int) (i : Nat) : Prop :=
 (z = y0 ∧ (y0 = 0 → ∀ j (hj : j < l.length), j < i → shr .i64 l[j] (width : Int) = 0)) ∨ (y0 = 0 ∧ z = 1 ∧ ∃ j, ∃ hj : j < l.length, shr .i64 l[j] (width : Int) ≠ 0)
theorem shr_pow (x : Int) (n : Nat) (hn : n ≤ 64) : shr .i64 x (n : Int) = x / 2 ^ n := by
 have hb : min ((n : Int)).toNat IntKind.i64.bits = n := by
  rw [Int.toNat_natCast]; have : IntKind.i64.bits = 64 := rfl; omega
 unfold shr
 rw [hb]
theorem bad_less {width : Nat} (hw : width ≤ 8) {l : List Int} (h : Bad 8 l) : Bad (width : Int) l := by
 obtain ⟨x, hx, h⟩ := h
 refine ⟨x, hx, h.imp_right fun h8 h0 => h8 ?_⟩
 rw [shr_pow x width (by omega)] at h0
 have hpp : (0 : Int) < 2 ^ width := Int.pow_pos (by decide)
 have hp : (2 : Int) ^ width ≤ 256 := pow_le_8 width hw
 rw [shr8]
 have h1 := Int.mul_ediv_add_emod x (2 ^ width)
 have h2 := Int.emod_lt_of_pos x hpp
 have h3 := Int.emod_nonneg x (Int.ne_of_gt hpp)
 rw [h0] at h1
 omega
theorem wrI_end {width : Nat} (hw : width ≤ 8) {l : List Int} {z : Int} {i : Nat} (h : WrI width l (wrongS 8 l) z i) (hi : z = 0 → i = l.length) : z = wrongS width l := by
 have h3 : 256 < l.length → wrongS 8 l = 3 ∧ wrongS width l = 3 := fun hm => ⟨wrong_many hm, wrong_many hm⟩
 have h1 : l.length ≤ 256 → Bad 8 l → wrongS 8 l = 1 ∧ wrongS width l = 1 := fun hm hb => ⟨wrong_bad hm hb, wrong_bad hm (bad_less hw hb)⟩
 have h0 : l.length ≤ 256 → ¬ Bad 8 l → wrongS 8 l = 0 := fun hm hb => wrong_ok hm hb
 by_cases hm : 256 < l.length
 ·obtain ⟨a, b⟩ := h3 hm
  rw [a] at h
  rcases h with ⟨rfl, _⟩ | ⟨h, _⟩
  ·exact b.symm
  ·cases h
 ·by_cases hb : Bad 8 l
  ·obtain ⟨a, b⟩ := h1 (by omega) hb
   rw [a] at h
   rcases h with ⟨rfl, _⟩ | ⟨h, _⟩
   ·exact b.symm
   ·cases h
  ·rw [h0 (by omega) hb] at h
   rcases h with ⟨rfl, h⟩ | ⟨_, rfl, j, hj, h⟩
   ·have hn : ¬ Bad (width : Int) l := by
     rintro ⟨x, hx, hc⟩
     obtain ⟨j, hj, rfl⟩ := List.getElem_of_mem hx
     rcases hc with hc | hc
     ·exact hb ⟨_, hx, .inl hc⟩
     ·exact hc (h rfl j hj (by rw [hi rfl]; exact hj))
    exact (wrong_ok (by omega) hn).symm
   ·exact (wrong_bad (by omega) ⟨_, List.getElem_mem hj, .inr h⟩).symm
set_option maxHeartbeats 4000000 in
set_option maxRecDepth 100000 in
theorem rwrong_in (width : Nat) (A : Option Addr) (c : Nat) (l : List Int) (w : World) (h : Sl w A c l) (h8 : width ≤ 8) :
  Calls Tryz.prog 55 #[.int .i64 (width : Int), .slice A l.length c] w fun e w' => e = .returned (.int .i64 (wrongS width l)) ∧ Below w.heap.size w w' := by
 have HS := Aside0.mk h
 obtain ⟨q, hq⟩ : ∃ q, q = l.length := ⟨_, rfl⟩
 have HSM : Aside0 (q ≤ 9223372036854775807) := ⟨by rw [hq]; exact h.small⟩
 have hL := rleast_calls A c l w h
 rw [← hq] at hL ⊢
 have HL := Aside0.mk hL
 have HQ := Aside0.mk hq
 have hd : decide ((width : Int) < 0) = false := decide_eq_false (by omega)
 have hd2 : decide ((width : Int) > 8) = false := decide_eq_false (by omega)
 have hw0 : (0 : Int) ≤ (width : Int) := by omega
 clear h hq hL
 go_enter Tryz.func55, Tryz.ntmps55
 go_wp2_with (first
  | (go_at_call 81; refine (HL.out).mono ?_; rintro e w1 ⟨⟨x0, y, rfl, hr⟩, hb1⟩; have HR := Aside0.mk hr; have HB1 := Aside0.mk hb1; clear hr hb1))
 obtain ⟨y0, hy0⟩ : ∃ y0, y0 = y := ⟨_, rfl⟩
 have hyS : y = wrongS 8 l := HR.out.1
 have HY := Aside0.mk (And.intro hyS hy0)
 clear hyS hy0 hw0 hd hd2
 go_loopg [6, 7] q (fun gk v6 v7 wr => ∃ (i m : Nat) (z : Int), v7 = .int .i64 (i : Int) ∧ v6 = .int .i64 z ∧ wr = w1.drewN m ∧ Aside0 (i + gk = q) ∧ Aside0 (WrI width l y0 z i))
 case atStart => exact ⟨0, 0, y, rfl, rfl, (World.drewN_zero _).symm, ⟨by omega⟩, ⟨.inl ⟨HY.out.2.symm, fun _ j _ hj => absurd hj (by omega)⟩⟩⟩
 case round =>
  obtain ⟨i, m, z, rfl, rfl, rfl, HI, HW⟩ := hrel
  by_cases hi : i < q
  ·have hid : decide (i < q) = true := decide_eq_true hi
   have hii : (i : Int) < (q : Int) := by omega
   by_cases hz : z = 0
   ·have hzd : (z == 0) = true := beq_iff_eq.2 hz
    have hil : i < l.length := by rw [← HQ.out]; exact hi
    obtain ⟨ad, rfl, hcell0⟩ := sl_cells (HS.out.below HB1.out) i hil
    have hcell : (w1.drewN m).cell? (ad.add i) = some (.int .i64 l[i]) := hcell0
    obtain ⟨x, hx⟩ : ∃ x, x = l[i] := ⟨_, rfl⟩
    rw [← hx] at hcell
    have HX := Aside0.mk hx
    have HZ := Aside0.mk hz
    clear hx hz hcell0
    have hw0 : (0 : Int) ≤ (width : Int) := by omega
    have HSH := Aside0.mk (shr_pow x width (by omega))
    by_cases h1 : x / 2 ^ width = 0
    ·have h1d : (x / 2 ^ width != 0) = false := by rw [h1]; rfl
     have H1 := Aside0.mk h1
     clear h1
     go_wp2_with fail
     obtain ⟨g2, hg2⟩ : ∃ g2, g2 = gk - 1 := ⟨_, rfl⟩
     go_roundg g2
     case measure => have := HI.out; omega
     case rel =>
      refine ⟨i + 1, m, z, by rw [wrap_nat _ (by have := HSM.out; omega)], rfl, rfl, ⟨by have := HI.out; omega⟩, ⟨?_⟩⟩
      rcases HW.out with ⟨e, h⟩ | ⟨_, e, _⟩
      ·refine .inl ⟨e, fun e0 j hj hji => ?_⟩
       rcases Nat.lt_or_eq_of_le (Nat.le_of_lt_succ hji) with h' | h'
       ·exact h e0 j hj h'
       ·subst h'
        rw [← HX.out, HSH.out]; exact H1.out
      ·have := HZ.out; omega
    ·have h1d : (x / 2 ^ width != 0) = true := bne_iff_ne.2 h1
     have H1 := Aside0.mk h1
     clear h1
     go_wp2_with fail
     obtain ⟨g2, hg2⟩ : ∃ g2, g2 = gk - 1 := ⟨_, rfl⟩
     go_roundg g2
     case measure => have := HI.out; omega
     case rel =>
      refine ⟨i + 1, m, 1, by rw [wrap_nat _ (by have := HSM.out; omega)], rfl, rfl, ⟨by have := HI.out; omega⟩, ⟨?_⟩⟩
      rcases HW.out with ⟨e, h⟩ | ⟨_, e, _⟩
      ·exact .inr ⟨by have := HZ.out; omega, rfl, i, hil, by rw [← HX.out, HSH.out]; exact H1.out⟩
      ·have := HZ.out; omega
   ·have hzd : (z == 0) = false := beq_eq_false_iff_ne.2 hz
    have HZ := Aside0.mk hz
    clear hz
    go_wp2_with fail
    go_ret
    refine ⟨?_, HB1.out.trans ?_⟩
    ·have e := wrI_end h8 (by have := HW.out; rw [HY.out.2, HY.out.1] at this; exact this) (fun h => absurd h HZ.out)
     show Ending.returned (.int .i64 z) = _
     rw [e]
    ·exact pw_below_drewN (Below.refl _ _) _
  ·have hid : decide (i < q) = false := decide_eq_false hi
   have HIN := Aside0.mk hi
   clear hi
   go_wp2_with fail
   go_ret
   refine ⟨?_, HB1.out.trans ?_⟩
   ·have e := wrI_end h8 (by have := HW.out; rw [HY.out.2, HY.out.1] at this; exact this) (fun _ => by have := HI.out; have := HQ.out; have := HIN.out; omega)
    show Ending.returned (.int .i64 z) = _
    rw [e]
   ·exact pw_below_drewN (Below.refl _ _) _
theorem rwrong_calls (width : Int) (A : Option Addr) (c : Nat) (l : List Int) (w : World) (h : Sl w A c l) :
  Calls Tryz.prog 55 #[.int .i64 width, .slice A l.length c] w fun e w' => e = .returned (.int .i64 (rwrongS width l)) ∧ Below w.heap.size w w' := by
 by_cases hw : width < 0 ∨ 8 < width
 ·unfold rwrongS
  rw [if_pos hw]
  exact rwrong_width width A c _ w hw
 ·unfold rwrongS
  rw [if_neg hw]
  obtain ⟨n, rfl⟩ := Int.eq_ofNat_of_zero_le (a := width) (by omega)
  exact rwrong_in n A c l w h (by omega)
theorem full_cols {wd : Nat} (h : wd ≤ 8) : wrap64 (wrap64 (2 ^ wd) - 1) = 2 ^ wd - 1 := by
 have : wd = 0 ∨ wd = 1 ∨ wd = 2 ∨ wd = 3 ∨ wd = 4 ∨ wd = 5 ∨ wd = 6 ∨ wd = 7 ∨ wd = 8 := by omega
 rcases this with rfl | rfl | rfl | rfl | rfl | rfl | rfl | rfl | rfl <;> decide +kernel
theorem addC_yes {s : Int} {o : List Int} {k : Nat} (hk : k ≤ 64) (hb : Go.bits .and .i64 (s / 2 ^ k) 1 = 1) (hn : (k : Int) ∉ addC s o k) : addC s o (k + 1) = addC s o k ++ [(k : Int)] := by
 rw [← shr_pow s k hk] at hb
 show (if _ then _ else _) = _
 rw [if_pos ⟨hb, hn⟩]
theorem addC_no {s : Int} {o : List Int} {k : Nat} (hk : k ≤ 64) (h : Go.bits .and .i64 (s / 2 ^ k) 1 ≠ 1 ∨ (k : Int) ∈ addC s o k) : addC s o (k + 1) = addC s o k := by
 rw [← shr_pow s k hk] at h
 show (if _ then _ else _) = _
 rw [if_neg fun hc => h.elim (fun h => h hc.1) (fun h => hc.2 h)]
theorem ordF_snoc (w : Nat) (o r : List Int) (j : Nat) (hj : j < r.length) : ordF w o (r.take (j + 1)) = addC r[j] (ordF w o (r.take j)) w := by
 unfold ordF
 rw [List.take_succ_eq_append_getElem hj, List.foldl_append]; rfl
def OrdersR (width : Int) (l : List Int) (w : World) (e : Ending) (w' : World) : Prop :=
 ∃ v y, e = .returned (.tuple #[v, .int .i64 y]) ∧ y = rwrongS width l ∧ Below w.heap.size w w' ∧ ((y ≠ 0 ∧ v = .slice none 0 0) ∨ (y = 0 ∧ ∃ (wd : Nat) (ovs : List Value) (rows : List (List Int)), width = wd ∧ wd ≤ 8 ∧ ChainsOk l rows ∧ Rw w' w.heap.size v ovs (rows.map (ordOf wd)) ∧ rows.length ≤ 257))
set_option maxHeartbeats 4000000 in
set_option maxRecDepth 100000 in
theorem orders_width (width : Int) (A : Option Addr) (c n : Nat) (l : List Int) (w : World) (h : width < 0 ∨ 8 < width) :
  Calls Tryz.prog 35 #[.int .i64 width, .slice A n c] w (OrdersR width l w) := by
 have HH := Aside0.mk h
 by_cases h0 : width < 0
 ·have hd : decide (width < 0) = true := decide_eq_true h0
  clear h
  go_enter Tryz.func35, Tryz.ntmps35
  go_wp2
  go_ret2
  exact ⟨_, 1, rfl, (by unfold rwrongS; rw [if_pos HH.out]), Below.refl _ _, .inl ⟨by decide, rfl⟩⟩
 ·have hd : decide (width < 0) = false := decide_eq_false h0
  have h8 : width > 8 := h.resolve_left h0
  have hd2 : decide (width > 8) = true := decide_eq_true h8
  clear h
  go_enter Tryz.func35, Tryz.ntmps35
  go_wp2
  go_ret2
  exact ⟨_, 1, rfl, (by unfold rwrongS; rw [if_pos HH.out]), Below.refl _ _, .inl ⟨by decide, rfl⟩⟩
set_option maxHeartbeats 4000000 in
set_option maxRecDepth 100000 in
theorem orders_wrong (wd : Nat) (A : Option Addr) (c : Nat) (l : List Int) (w : World) (h : Sl w A c l) (h8 : wd ≤ 8) (h0 : wrongS wd l ≠ 0) :
  Calls Tryz.prog 35 #[.int .i64 (wd : Int), .slice A l.length c] w (OrdersR wd l w) := by
 have hW := wrong_calls wd (by omega) A c l w h
 have hd : decide ((wd : Int) < 0) = false := decide_eq_false (by omega)
 have hd2 : decide ((wd : Int) > 8) = false := decide_eq_false (by omega)
 have HRW : Aside0 (rwrongS wd l = wrongS wd l) := ⟨by unfold rwrongS; rw [if_neg (by omega)]⟩
 obtain ⟨y, hy⟩ : ∃ y, y = wrongS wd l := ⟨_, rfl⟩
 rw [← hy] at hW h0 HRW
 have hyd : (y != 0) = true := bne_iff_ne.2 h0
 have H0 := Aside0.mk h0
 clear h hy h0
 go_enter Tryz.func35, Tryz.ntmps35
 go_wp2_with (first
  | (go_at_call 60; refine hW.mono ?_; clear hW; rintro e w1 ⟨rfl, ⟨m, rfl⟩⟩))
 go_ret2
 exact ⟨_, y, rfl, HRW.out.symm, pw_below_drewN (Below.refl _ w) m, .inl ⟨H0.out, rfl⟩⟩
set_option maxHeartbeats 8000000 in
set_option maxRecDepth 100000 in
theorem orders_good (wd : Nat) (A : Option Addr) (c : Nat) (l : List Int) (w : World) (h : Sl w A c l) (h8 : wd ≤ 8) (h0 : wrongS wd l = 0) (hn : l.length ≤ 256) (hr : ∀ x ∈ l, 0 ≤ x ∧ x < 2 ^ wd) :
  Calls Tryz.prog 35 #[.int .i64 (wd : Int), .slice A l.length c] w (OrdersR wd l w) := by
 have hW := wrong_calls wd (by omega) A c l w h
 have hpw : (2 : Int) ^ wd ≤ 256 := pow_le_8 wd h8
 have HC : Aside0 (∀ m, Calls Tryz.prog 61 #[.slice A l.length c] (w.drewN m) (ChainsR l (w.drewN m))) := ⟨fun m => chains_calls A c l (w.drewN m) (h.drewN m) hn fun x hx => by have := hr x hx; omega⟩
 have HRW : Aside0 (rwrongS wd l = 0) := ⟨by unfold rwrongS; rw [if_neg (by omega)]; exact h0⟩
 have hd : decide ((wd : Int) < 0) = false := decide_eq_false (by omega)
 have hd2 : decide ((wd : Int) > 8) = false := decide_eq_false (by omega)
 rw [h0] at hW
 have HR := Aside0.mk hr
 have HLN := Aside0.mk hn
 clear h h0 hr hn hpw
 go_enter Tryz.func35, Tryz.ntmps35
 go_wp2_with (first
  | (go_at_call 60; refine hW.mono ?_; clear hW; rintro e w1 ⟨rfl, ⟨m, rfl⟩⟩)
  | (go_at_call 61; refine (HC.out m).mono ?_; rintro e w2 ⟨v, rvs, rows, rfl, hok, hrw, hb, hl⟩; obtain ⟨A2, c2, rfl⟩ := own_slice hrw.own; have HOK := Aside0.mk hok; have HRW2 : Aside0 (Rw w2 w.heap.size (.slice A2 rvs.length c2) rvs rows) := ⟨hrw⟩; have HB : Aside0 (Below w.heap.size w w2) := ⟨(pw_below_drewN (Below.refl _ w) m).trans hb⟩; have HLR : Aside0 (rows.length ≤ 257 ∧ rvs.length = rows.length) := ⟨hl, hrw.len⟩; clear hok hrw hb hl))
 obtain ⟨n, hnr⟩ : ∃ n, n = rvs.length := ⟨_, rfl⟩
 rw [← hnr] at HRW2 ⊢
 have HNR := Aside0.mk hnr
 have hn257 : n ≤ 257 := by have := HLR.out; omega
 obtain ⟨N, hN⟩ : ∃ N, N = w2.heap.size := ⟨_, rfl⟩
 have HN := Aside0.mk hN
 have HNW : Aside0 (w.heap.size ≤ w2.heap.size) := ⟨HB.out.size⟩
 clear hnr hN
 go_loopg [7, 29] n (fun gk v7 v29 wr => ∃ (i : Nat) (ovs : List Value) (A7 : Option Addr) (c7 : Nat), v29 = .int .i64 (i : Int) ∧ v7 = .slice A7 ovs.length c7 ∧ Aside0 (i + gk = n) ∧ Aside0 (Kp w w2 rvs i wr) ∧ Aside0 (Rw wr w2.heap.size (.slice A7 ovs.length c7) ovs ((rows.take i).map (ordOf wd))))
 case atStart => exact ⟨0, [], none, 0, rfl, rfl, ⟨by omega⟩, ⟨Kp.start HB.out⟩, ⟨Rw.nil _ _⟩⟩
 case round =>
  obtain ⟨i, ovs, A7, c7, rfl, rfl, HI, HK, HO⟩ := hrel
  by_cases hi : i < n
  ·have hid : decide (i < n) = true := decide_eq_true hi
   have hii : (i : Int) < (n : Int) := by omega
   have HIL := Aside0.mk hi
   have hir : i < rvs.length := by rw [← HNR.out]; exact hi
   have hio : i < rows.length := by rw [← HLR.out.2]; exact hir
   obtain ⟨g, cap, hgc, hcell⟩ := HK.out.cell HRW2.out i hir
   injection hgc with e1 e2 e3
   subst e1
   have how := HK.out.row HRW2.out hir hio
   obtain ⟨r9, h9⟩ : ∃ r9, r9 = rvs[i] := ⟨_, rfl⟩
   obtain ⟨q, hq⟩ : ∃ q, q = rows[i] := ⟨_, rfl⟩
   rw [← h9] at hcell how
   rw [← hq] at how
   obtain ⟨A9, c9, e9, _⟩ := ow_slice how
   subst e9
   have HOW := Aside0.mk how
   have HQ := Aside0.mk (And.intro h9 hq)
   clear how h9 hq e2 e3
   have HSH : Aside0 (q.length ≤ 256) := ⟨by rw [HQ.out.2]; have := HOK.out.short _ (List.getElem_mem hio); have := HLN.out; omega⟩
   have HIR : Aside0 (i < rvs.length ∧ i < rows.length) := ⟨hir, hio⟩
   go_wp2_with (first
    | ((with_reducible refine gate_builtin (b := .append) (xs := #[.tmp 34, .tmp 38]) rfl ?_); at_builtin; refine print_append (W := wr.alloc (.cells #[] 3)) (w0 := w) w.heap.size rfl (.tmp 34) (.tmp 38) 23 3 (.int .i64 0) 8 rfl Tryz.underlying23 info3 rfl (by decide) (.slice A9 q.length c9) (q.map (Value.int .i64)) (.int .i64 (wrap64 (wrap64 (2 ^ wd) - 1))) rfl ?hx rfl ?aO ?aB ?aS ?aL ?_; (case hx => rw [show (wr.alloc (.cells #[] 3)).heap.size = wr.heap.size + 1 from by simp]; rfl); (case aO => rw [List.length_map]; exact own_alloc HOW.out _); (case aB => exact HK.out.below.alloc HK.out.below.size _); (case aS => have := HK.out.below.size; simp; omega); (case aL => rw [List.length_map]; have := HSH.out; omega); intro v6 w6 q6 b6 g6 t6; have HOI := Aside0.mk (oi_start HK.out HNW.out HRW2.out HIR.out.1 HIR.out.2 HO.out _ HQ.out.1 HQ.out.2 q6 b6 g6 t6); obtain ⟨A39, c39, hv6, _⟩ := ow_slice HOI.out.ow; subst hv6; clear q6 b6 g6 t6 hcell))
   rw [full_cols h8] at HOI
   obtain ⟨r, hrq⟩ : ∃ r, r = q ++ [(2 : Int) ^ wd - 1] := ⟨_, rfl⟩
   rw [← hrq] at HOI
   have HRQ := Aside0.mk hrq
   have HRL : Aside0 (r.length = q.length + 1) := ⟨by rw [hrq]; simp⟩
   have HR8 : Aside0 (∀ x ∈ r, 0 ≤ x ∧ x < 256) := ⟨fun x hx => by
    have hpw : (2 : Int) ^ wd ≤ 256 := pow_le_8 wd h8
    have hpp : (0 : Int) < 2 ^ wd := Int.pow_pos (by decide)
    rw [hrq] at hx
    rcases List.mem_append.1 hx with hx | hx
    ·have := HR.out x (HOK.out.of q (by rw [HQ.out.2]; exact List.getElem_mem _) x hx).1
     omega
    ·rw [List.mem_singleton] at hx; omega⟩
   clear hrq hid hii hi
   go_loopg [10, 41] (q.length + 1) (fun gk v10 v41 wr => ∃ (j : Nat) (o : List Int) (A10 : Option Addr) (c10 : Nat), v41 = .int .i64 (j : Int) ∧ v10 = .slice A10 o.length c10 ∧ Aside0 (j + gk = q.length + 1) ∧ Aside0 (OI w w2 rvs i wr (.slice A7 ovs.length c7) ovs ((rows.take i).map (ordOf wd)) (.slice A10 o.length c10) o (.slice A39 r.length c39) r) ∧ Aside0 (o = ordF wd [] (r.take j)) ∧ Aside0 (o.length ≤ 8 * j))
   case atStart => exact ⟨0, [], _, _, rfl, rfl, ⟨by omega⟩, HOI, ⟨by simp [ordF]⟩, ⟨by simp⟩⟩
   case round =>
    obtain ⟨j, o, A10, c10, rfl, rfl, HJ, HO2, HOE, HOL⟩ := hrel
    by_cases hj : j < q.length + 1
    ·have hjd : decide (j < q.length + 1) = true := decide_eq_true hj
     have hji : (j : Int) < (q.length : Int) + 1 := by omega
     have hjr : j < r.length := by rw [HRL.out]; exact hj
     obtain ⟨A', c', e', hs⟩ := ow_slice HO2.out.ow
     injection e' with e1 e2 e3
     subst e1
     obtain ⟨ad, rfl, hcell⟩ := sl_cells hs j hjr
     obtain ⟨s, hsr⟩ : ∃ s, s = r[j] := ⟨_, rfl⟩
     rw [← hsr] at hcell
     have HS := Aside0.mk hsr
     have HS8 : Aside0 (0 ≤ s ∧ s < 256) := ⟨by rw [hsr]; exact HR8.out _ (List.getElem_mem _)⟩
     have HJL := Aside0.mk hj
     clear hsr hs e2 e3
     go_wp2_with fail
     clear hjd hji hj hcell
     go_loopg [10, 46] wd (fun gk v10 v46 wr => ∃ (k : Nat) (o2 : List Int) (A10 : Option Addr) (c10 : Nat), v46 = .int .i64 (k : Int) ∧ v10 = .slice A10 o2.length c10 ∧ Aside0 (k + gk = wd) ∧ Aside0 (OI w w2 rvs i wr (.slice A7 ovs.length c7) ovs ((rows.take i).map (ordOf wd)) (.slice A10 o2.length c10) o2 (.slice (some ad) r.length c39) r) ∧ Aside0 (o2 = addC s o k) ∧ Aside0 (o2.length ≤ 8 * j + k))
     case atStart => exact ⟨0, o, _, _, rfl, rfl, ⟨by omega⟩, HO2, ⟨rfl⟩, ⟨by have := HOL.out; omega⟩⟩
     case round =>
      obtain ⟨k, o2, A11, c11, rfl, rfl, HK3, HO3, HOE3, HOL3⟩ := hrel
      by_cases hk : k < wd
      ·have hkd : decide (k < wd) = true := decide_eq_true hk
       have hki : (k : Int) < (wd : Int) := by omega
       have HKL := Aside0.mk hk
       have HC3 : Aside0 (Calls Tryz.prog 62 #[.slice A11 o2.length c11, .int .i64 (k : Int)] wr fun e w' => e = .returned (.bool (decide ((k : Int) ∈ o2))) ∧ Drawn0 wr w') := ⟨by
        obtain ⟨A', c', e', hs⟩ := ow_slice HO3.out.rg.ow
        injection e' with e1 e2 e3
        subst e1 e3
        exact contains_calls A11 c11 o2 k wr hs (by have := HOL3.out; have := HJL.out; have := HSH.out; omega)⟩
       have hbt : (Go.bits .and .i64 (s / 2 ^ k) 1 = 1) ∨ ¬ (Go.bits .and .i64 (s / 2 ^ k) 1 = 1) := Classical.em _
       rcases hbt with hbt | hbt
       ·have hbd : (Go.bits .and .i64 (s / 2 ^ k) 1 == 1) = true := beq_iff_eq.2 hbt
        have HBT2 := Aside0.mk hbt
        clear hbt hk
        by_cases hm : (k : Int) ∈ o2
        ·rw [decide_eq_true hm] at HC3
         have HM := Aside0.mk hm
         clear hm
         go_wp2_with (first
          | (go_at_call 62; refine HC3.out.mono ?_; rintro e w3 ⟨rfl, ⟨nd, rfl⟩⟩))
         obtain ⟨g2, hg2⟩ : ∃ g2, g2 = gk - 1 := ⟨_, rfl⟩
         go_roundg g2
         case measure => have := HK3.out; have := HKL.out; omega
         case rel => exact ⟨k + 1, o2, A11, c11, by (have := HKL.out; go_num), rfl, ⟨by have := HK3.out; have := HKL.out; omega⟩, ⟨HO3.out.drewN _⟩, ⟨by rw [addC_no (by have := HKL.out; omega) (.inr (by rw [← HOE3.out]; exact HM.out))]; exact HOE3.out⟩, ⟨by have := HOL3.out; omega⟩⟩
        ·rw [decide_eq_false hm] at HC3
         have HM := Aside0.mk hm
         clear hm
         have HSZ : Aside0 (w2.heap.size ≤ wr.heap.size) := ⟨HO3.out.kp.size⟩
         go_wp2_with (first
          | (go_at_call 62; refine HC3.out.mono ?_; rintro e w3 ⟨rfl, ⟨nd, rfl⟩⟩; have HO4 : Aside0 (OI w w2 rvs i (wr.drewN nd) (.slice A7 ovs.length c7) ovs ((rows.take i).map (ordOf wd)) (.slice A11 o2.length c11) o2 (.slice (some ad) r.length c39) r) := ⟨HO3.out.drewN nd⟩)
          | ((with_reducible refine gate_builtin (b := .append) (xs := #[.tmp 60, .tmp 62]) rfl ?_); at_builtin; refine print_append (W := wr.drewN nd) (w0 := wr.drewN nd) w2.heap.size rfl (.tmp 60) (.tmp 62) 23 3 (.int .i64 0) 8 rfl Tryz.underlying23 info3 rfl (by decide) (.slice A11 o2.length c11) (o2.map (Value.int .i64)) (.int .i64 (k : Int)) rfl rfl rfl ?aO (Below.refl _ _) HSZ.out ?aL ?_; (case aO => rw [List.length_map]; exact HO4.out.rg.ow); (case aL => rw [List.length_map]; have := HOL3.out; have := HJL.out; have := HSH.out; have := HKL.out; omega); intro v6 w6 q6 b6 g6 t6; have HO6 := Aside0.mk (HO4.out.more q6 b6 g6 t6); obtain ⟨A12, c12, hv6, _⟩ := ow_slice HO6.out.rg.ow; subst hv6; clear q6 b6 g6 t6))
         obtain ⟨g2, hg2⟩ : ∃ g2, g2 = gk - 1 := ⟨_, rfl⟩
         go_roundg g2
         case measure => have := HK3.out; have := HKL.out; omega
         case rel => exact ⟨k + 1, o2 ++ [(k : Int)], A12, c12, by (have := HKL.out; go_num), by simp, ⟨by have := HK3.out; have := HKL.out; omega⟩, HO6, ⟨by rw [addC_yes (by have := HKL.out; omega) HBT2.out (by rw [← HOE3.out]; exact HM.out), ← HOE3.out]⟩, ⟨by have := HOL3.out; simp; omega⟩⟩
       ·have hbd : (Go.bits .and .i64 (s / 2 ^ k) 1 == 1) = false := beq_eq_false_iff_ne.2 hbt
        have HBT2 := Aside0.mk hbt
        clear hbt hk
        go_wp2_with fail
        obtain ⟨g2, hg2⟩ : ∃ g2, g2 = gk - 1 := ⟨_, rfl⟩
        go_roundg g2
        case measure => have := HK3.out; have := HKL.out; omega
        case rel => exact ⟨k + 1, o2, A11, c11, by (have := HKL.out; go_num), rfl, ⟨by have := HK3.out; have := HKL.out; omega⟩, by first | exact ⟨HO3.out⟩ | exact ⟨HO3.out.drewN _⟩, ⟨by rw [addC_no (by have := HKL.out; omega) (.inl HBT2.out)]; exact HOE3.out⟩, ⟨by have := HOL3.out; omega⟩⟩
      ·have hkd : decide (k < wd) = false := decide_eq_false hk
       have hkw : k = wd := by have := HK3.out; omega
       have HKW := Aside0.mk hkw
       clear hkw hk
       go_wp2_with fail
       obtain ⟨g2, hg2⟩ : ∃ g2, g2 = q.length + 1 - (j + 1) := ⟨_, rfl⟩
       go_roundg g2
       case measure => have := HJ.out; have := HJL.out; omega
       case rel =>
        refine ⟨j + 1, o2, A11, c11, by rw [wrap_nat _ (by have := HJL.out; have := HSH.out; omega)], rfl, ⟨by have := HJ.out; have := HJL.out; omega⟩, HO3, ⟨?_⟩, ⟨by have := HOL3.out; have := HKW.out; omega⟩⟩
        rw [ordF_snoc wd [] r j hjr, ← HS.out, ← HOE.out, HOE3.out, HKW.out]
    ·have hjd : decide ((j : Int) < (q.length : Int) + 1) = false := decide_eq_false (by omega)
     have hjq : j = q.length + 1 := by have := HJ.out; omega
     have HJQ := Aside0.mk hjq
     have HSZ : Aside0 (w2.heap.size ≤ wr.heap.size) := ⟨HO2.out.kp.size⟩
     have HOV : Aside0 (ovs.length ≤ 257) := ⟨by have := HO.out.len; rw [List.length_map, List.length_take] at this; have := HLR.out; omega⟩
     clear hjq hj
     go_wp2_with (first
      | ((with_reducible refine gate_builtin (b := .append) (xs := #[.tmp 66, .tmp 68]) rfl ?_); at_builtin; refine print_append (w0 := wr) w2.heap.size rfl (.tmp 66) (.tmp 68) 44 23 (.slice none 0 0) 24 rfl Tryz.underlying44 infoRow rfl (by decide) (.slice A7 ovs.length c7) ovs (.slice A10 o.length c10) rfl rfl rfl HO2.out.rg.rw_.own (Below.refl _ _) HSZ.out ?aL ?_; (case aL => have := HOV.out; omega); intro v6 w6 q6 b6 g6 t6; have HR6 := Aside0.mk (HO2.out.snoc q6 b6 g6); obtain ⟨A8, c8, hv6⟩ := own_slice HR6.out.2.own; subst hv6; clear q6 b6 g6 t6))
     obtain ⟨g2, hg2⟩ : ∃ g2, g2 = n - (i + 1) := ⟨_, rfl⟩
     go_roundg g2
     case measure => have := HI.out; have := HIL.out; omega
     case rel =>
      refine ⟨i + 1, ovs ++ [.slice A10 o.length c10], A8, c8, by rw [wrap_nat _ (by have := HIL.out; omega)], by simp, ⟨by have := HI.out; have := HIL.out; omega⟩, ⟨HR6.out.1⟩, ⟨?_⟩⟩
      have e : (rows.take (i + 1)).map (ordOf wd) = (rows.take i).map (ordOf wd) ++ [o] := by
       rw [List.take_succ_eq_append_getElem hio, List.map_append, ← HQ.out.2, HOE.out, HJQ.out, ← HRL.out, List.take_length, HRQ.out]
       rfl
      rw [e]; exact HR6.out.2
  ·have hid : decide (i < n) = false := decide_eq_false hi
   have hin : i = n := by have := HI.out; omega
   have HE : Aside0 ((rows.take i).map (ordOf wd) = rows.map (ordOf wd)) := ⟨by rw [List.take_of_length_le (by have := HLR.out; have := HNR.out; omega)]⟩
   clear hin hi
   go_wp2_with fail
   go_ret2
   refine ⟨_, 0, rfl, HRW.out.symm, HK.out.below, .inr ⟨rfl, wd, ovs, rows, rfl, h8, HOK.out, ?_, HLR.out.1⟩⟩
   rw [← HE.out]
   exact HO.out.lower HNW.out
theorem good_wrong {wd : Nat} (h8 : wd ≤ 8) {l : List Int} (h : wrongS wd l = 0) : l.length ≤ 256 ∧ ∀ x ∈ l, 0 ≤ x ∧ x < 2 ^ wd := by
 unfold wrongS at h
 by_cases h1 : 256 < l.length
 ·rw [if_pos h1] at h; cases h
 ·rw [if_neg h1] at h
  by_cases h2 : Bad (wd : Int) l
  ·rw [if_pos h2] at h; cases h
  ·refine ⟨by omega, fun x hx => ?_⟩
   have h3 : ¬ (x < 0 ∨ shr .i64 x wd ≠ 0) := fun hc => h2 ⟨x, hx, hc⟩
   rw [shr_pow x wd (by omega)] at h3
   have h4 : 0 ≤ x := Int.not_lt.1 fun hc => h3 (.inl hc)
   have h5 : x / 2 ^ wd = 0 := Classical.byContradiction fun hc => h3 (.inr hc)
   have hpp : (0 : Int) < 2 ^ wd := Int.pow_pos (by decide)
   have h6 := Int.lt_ediv_add_one_mul_self x hpp
   rw [h5] at h6
   exact ⟨h4, by simpa using h6⟩
theorem orders_calls (width : Int) (A : Option Addr) (c : Nat) (l : List Int) (w : World) (h : Sl w A c l) :
  Calls Tryz.prog 35 #[.int .i64 width, .slice A l.length c] w (OrdersR width l w) := by
 by_cases hw : width < 0 ∨ 8 < width
 ·exact orders_width width A c _ l w hw
 ·obtain ⟨wd, rfl⟩ := Int.eq_ofNat_of_zero_le (a := width) (by omega)
  by_cases h0 : wrongS wd l = 0
  ·obtain ⟨h1, h2⟩ := good_wrong (by omega) h0
   exact orders_good wd A c l w h (by omega) h0 h1 h2
  ·exact orders_wrong wd A c l w h (by omega) h0
end Go.Proofs.YtcmllllbmgcnlaaGreat.Ch
end
section
namespace Go.Proofs.YtcmllllbmgcnlaaGreat.Ch
open Go.RowKit Go.Proofs.YtcmllllbmgcnlaaGreat.G Go.Proofs.YtcmllllbmgcnlaaGreat.Tup Go.Proofs.YtcmllllbmgcnlaaGreatW.PrintWords Go.Proofs.YtcmllllbmgcnlaaGreatW.PrintLast Go.Proofs.YtcmllllbmgcnlaaGreatW.PrintMore
set_option linter.unusedVariables false
set_option linter.unusedSimpArgs false
theorem pick_calls (A : Option Addr) (c : Nat) (os : List (List Int)) (s : Int) (w : World) (h : Kd.C (Kd.slice 3 (Kd.int .i64)) w A os.length os) (hc : os.length ≤ c) (hn : os.length ≤ 9223372036854775806) :
  Calls Tryz.prog 46 #[.slice A os.length c, .int .i64 s] w fun e w' => e = .returned (.tuple #[.int .i64 (pickS s 0 os).1, .bool (pickS s 0 os).2]) ∧ Drawn0 w w' := by
 obtain ⟨B, hB⟩ := len_bound os
 refine chain_Pick.calls (B + 14 + os.length) _ _ os _ _ _ w h hc ?_
 exact pick_loop s os hn B hB os [] _ rfl (by omega)
end Go.Proofs.YtcmllllbmgcnlaaGreat.Ch
end
section
namespace Go.Proofs.YtcmllllbmgcnlaaGreat.Ch
open Go.RowKit Go.Deep Go.Proofs.YtcmllllbmgcnlaaGreat.G Go.Proofs.YtcmllllbmgcnlaaGreat.Tup Go.Proofs.YtcmllllbmgcnlaaGreatW.PrintWords Go.Proofs.YtcmllllbmgcnlaaGreatW.PrintLast Go.Proofs.YtcmllllbmgcnlaaGreatW.PrintMore
set_option linter.unusedVariables false
set_option linter.unusedSimpArgs false
abbrev Tp := List Int
abbrev KT : Kd (List Int) := Kd.slice 3 (Kd.int .i64)
theorem tup_at {W : World} {A : Option Addr} {n : Nat} {ts : List Tp} (h : Kd.C KT W A n ts) (i : Nat) (hi : i < ts.length) :
  ∃ ad Ai ci, A = some ad ∧ W.cell? (ad.add i) = some (.slice Ai (ts[i]).length ci) ∧ Sl W Ai ci ts[i] := by
 have hn : ts.length = n := h.1
 obtain ⟨ad, c, e, hl, hK, hc⟩ := Kd.C_get h ([] : List Int) (i : Int) (by omega) (by omega)
 have eg : ts.getD ((i : Int)).toNat [] = ts[i] := by simp [hi]
 rw [eg] at hK
 obtain ⟨Ai, ci, rfl, hle, hC⟩ := hK
 refine ⟨ad, Ai, ci, e, ?_, hC, hle⟩
 have := hc 0 _ rfl
 simpa [Kd.slice] using this
end Go.Proofs.YtcmllllbmgcnlaaGreat.Ch
end
