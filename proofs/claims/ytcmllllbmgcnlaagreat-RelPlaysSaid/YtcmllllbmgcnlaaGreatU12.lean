/- Own texts, joined and cut to what the claim stands on: BtInsT, BtInsN, BtRow. -/
import Derived.Test.YtcmllllbmgcnlaaGreatU11
section
namespace Go.Proofs.YtcmllllbmgcnlaaGreat.Tup
open Go.RowKit Go.Lib Go.Proofs.YtcmllllbmgcnlaaGreat.G Go.Proofs.YtcmllllbmgcnlaaGreatW.PrintWords Go.Proofs.YtcmllllbmgcnlaaGreatW.PrintLast Go.Proofs.YtcmllllbmgcnlaaGreatW.PrintMore
set_option linter.unusedVariables false
set_option linter.unusedSimpArgs false
theorem insT_info : (Tryz.prog.info? 23).map (fun i => (i.zero, i.size, i.bytes)) = some (some (.slice none 0 0), 1, 24) := by kernel_rfl
theorem insT_sz : (Tryz.prog.info? 23).map (·.size) = some 1 := by kernel_rfl
def InsT (w : World) (base : Nat) (v : Value) (n : Nat) (ys : List Value) (e : Ending) (w' : World) : Prop :=
 ∃ v', e = .returned v' ∧ w'.ownsRow base 23 1 v' (n + 1) ys ∧ w.grownBy w' v.ownBlock ∧ (v'.ownBlock = v.ownBlock ∨ ∃ g, v'.ownBlock = some g ∧ w.heap.size ≤ g)
theorem insT_shiftL {α : Type} (L : List α) (n i : Nat) (x : α) (hi : i < n) (hL : n + 1 ≤ L.length) :
  let c1 := L.take (i + 1) ++ (L.drop i).take (n - i) ++ L.drop (i + 1 + ((L.drop i).take (n - i)).length)
  let c2 := c1.take i ++ [x] ++ c1.drop (i + [x].length)
  c2.take (n + 1) = insL (L.take n) i x ∧ c2.length = L.length := by
 intro c1 c2
 have hl : ((L.drop i).take (n - i)).length = n - i := by simp; omega
 have e1 : c1.take i = L.take i := by
  show (L.take (i + 1) ++ (L.drop i).take (n - i) ++ L.drop (i + 1 + ((L.drop i).take (n - i)).length)).take i = L.take i
  rw [List.append_assoc, List.take_append_of_le_length (by simp; omega), List.take_take, Nat.min_eq_left (by omega)]
 have e2 : c1.drop (i + 1) = (L.drop i).take (n - i) ++ L.drop (i + 1 + ((L.drop i).take (n - i)).length) := by
  show (L.take (i + 1) ++ (L.drop i).take (n - i) ++ L.drop (i + 1 + ((L.drop i).take (n - i)).length)).drop (i + 1) = _
  rw [List.append_assoc]
  exact List.drop_left' (by simp; omega)
 have e3 : c2 = L.take i ++ x :: (L.drop i).take (n - i) ++ L.drop (i + 1 + (n - i)) := by
  show c1.take i ++ [x] ++ c1.drop (i + 1) = _
  rw [e1, e2, hl]; simp
 have e4 : (L.take n).drop i = (L.drop i).take (n - i) := by rw [List.drop_take]
 have e5 : (L.take n).take i = L.take i := by rw [List.take_take, Nat.min_eq_left (by omega)]
 constructor
 ·rw [e3]
  unfold insL
  rw [e4, e5]
  exact List.take_left' (by simp; omega)
 ·rw [e3]; simp; omega
theorem insT_growL {α : Type} (R L : List α) (n i G : Nat) (x : α) (hi : i < n) (hL : L.length = n) (hR : R.length = G) (hRt : R.take i = L.take i) (hG : n + 1 ≤ G) :
  let c2 := R.take i ++ [x] ++ R.drop (i + [x].length)
  let c3 := c2.take (i + 1) ++ L.drop i ++ c2.drop (i + 1 + (L.drop i).length)
  c3.take (n + 1) = insL L i x ∧ c3.length = G := by
 intro c2 c3
 have hl : (L.drop i).length = n - i := by simp [hL]
 have e1 : c2.take (i + 1) = L.take i ++ [x] := by
  show (R.take i ++ [x] ++ R.drop (i + 1)).take (i + 1) = _
  rw [hRt]
  exact List.take_left' (by simp [hL]; omega)
 have hc2 : c2.length = G := by
  show (R.take i ++ [x] ++ R.drop (i + 1)).length = G
  simp [hR]; omega
 have e3 : c3 = (L.take i ++ x :: L.drop i) ++ c2.drop (i + 1 + (L.drop i).length) := by
  show c2.take (i + 1) ++ L.drop i ++ c2.drop (i + 1 + (L.drop i).length) = _
  rw [e1]; simp
 constructor
 ·rw [e3]
  exact List.take_left' (by simp [hL]; omega)
 ·rw [e3]; simp [hc2, hL]; omega
set_option maxHeartbeats 2000000 in
set_option maxRecDepth 100000 in
theorem insT_end (w : World) (base : Nat) (v : Value) (n : Nat) (xs : List Value) (hown : w.ownsRow base 23 1 v n xs) (x : Value) (hx : x.oneCell' = true) (vb : Nat) (hvb : w.heap[vb]? = some (.cells #[x] 23 (0, 0)))
  (hbase : base ≤ w.heap.size) (hn : n ≤ 1000000) :
  Calls Tryz.prog 89 #[v, .int .i64 n, .slice (some ⟨vb, 0, none⟩) 1 1] w (InsT w base v n (xs ++ [x])) := by
 obtain ⟨i0, hi, hz0, hz1, hz2⟩ := info_parts insT_info
 have hcell : ∀ j u, [x][j]? = some u → w.cell? ((⟨vb, 0, none⟩ : Addr).add j) = some u := fun j u hj => by
  rw [Addr.add_lit, Nat.zero_add, cell_of_heap hvb]; simpa using hj
 obtain ⟨A, c, rfl⟩ : ∃ A c, v = .slice A n c := by
  rcases hown.2 with ⟨rfl, rfl⟩ | ⟨g, cap, cur, rfl, _⟩
  ·exact ⟨_, _, rfl⟩
  ·exact ⟨_, _, rfl⟩
 have hnc : n ≤ c := by
  rcases hown.2 with ⟨h, h2⟩ | ⟨g, cap, cur, h, _, _, h2, _⟩
  ·simp at h; omega
  ·simp at h; omega
 by_cases hcn : c = n
 ·subst hcn
  go_enter Tryz.func89, Tryz.ntmps89
  go_wp2_with (at_builtin; refine wpList_append_own_at _ rfl _ _ 44 rfl base 23 i0 (.slice none 0 0) 1 24 Tryz.underlying44 hi hz0 hz1 hz2 rfl (by decide) (.slice A c c) c xs rfl hown ⟨vb, 0, none⟩ 1 1 [x] rfl rfl hcell (by simpa using hx) (by unfold maxLen; omega) (by omega) hbase ?_; intro v' w1 hown1 hg1 _ hat1)
  go_ret
  exact ⟨_, rfl, hown1, hg1, hat1.imp id (fun h => ⟨_, h, Nat.le_refl _⟩)⟩
 ·skip
  go_enter Tryz.func89, Tryz.ntmps89
  go_wp2_with (at_builtin; refine wpList_append_own_at _ rfl _ _ 44 rfl base 23 i0 (.slice none 0 0) 1 24 Tryz.underlying44 hi hz0 hz1 hz2 rfl (by decide) (.slice A n c) n xs rfl hown ⟨vb, 0, none⟩ 1 1 [x] rfl rfl hcell (by simpa using hx) (by unfold maxLen; omega) (by omega) hbase ?_; intro v' w1 hown1 hg1 _ hat1)
  go_ret
  exact ⟨_, rfl, hown1, hg1, hat1.imp id (fun h => ⟨_, h, Nat.le_refl _⟩)⟩
theorem insT_over (w : World) (x : Value) (vb g i n c : Nat) (cur : Array Value) (hvb : w.heap[vb]? = some (.cells #[x] 23 (0, 0))) (hg : w.heap[g]? = some (.cells cur 23 (0, 0))) (hne : vb ≠ g) (hc : 0 < cur.size) :
  ∀ lb cb, (callFunc 108 #[.slice (some ⟨vb, 0, none⟩) 1 1, .slice (some ⟨g, i, none⟩) lb cb]).run Tryz.prog w = .ok (.value (.bool false)) w := fun lb cb => by
 rw [run_callFunc_extern Tryz.func108 (by kernel_rfl) (by kernel_rfl) (by kernel_rfl) (e := Extern.SlicesOverlaps.overlaps #[44, 44] #[4]) (by kernel_rfl),
  Lib.run_overlaps_apart w 44 4 23 Tryz.underlying44 1 (fun w => by kernel_rfl) ⟨vb, 0, none⟩ ⟨g, i, none⟩ 1 1 lb cb hne 23 23 1 cur.size (shape_of_heap hvb) (shape_of_heap hg) (by omega) (free_of_heap hvb 0) (free_of_heap hvb 1)]
 rfl
set_option maxHeartbeats 4000000 in
set_option maxRecDepth 100000 in
theorem insT_shift (w : World) (base g c : Nat) (cur : Array Value) (n i : Nat) (hbg : base ≤ g) (hg : w.heap[g]? = some (.cells cur 23 (0, 0))) (hc : cur.size = c) (hc63 : c ≤ maxLen) (hin : i < n) (hroom : n + 1 ≤ c) (h1 : ∀ u ∈ cur.toList.take n, u.oneCell' = true)
  (x : Value) (hx : x.oneCell' = true) (vb : Nat) (hvb : w.heap[vb]? = some (.cells #[x] 23 (0, 0))) (hne : vb ≠ g) :
  Calls Tryz.prog 89 #[.slice (some ⟨g, 0, none⟩) n c, .int .i64 i, .slice (some ⟨vb, 0, none⟩) 1 1] w (InsT w base (.slice (some ⟨g, 0, none⟩) n c) n (insL (cur.toList.take n) i x)) := by
 unfold maxLen at hc63
 have hov := insT_over w x vb g (i + 1) n c cur hvb hg hne (by omega)
 have hz2 : ¬ ((i : Int) = (n : Int)) := by omega
 have hz2' : ((i : Int) == (n : Int)) = false := beq_eq_false_iff_ne.2 hz2
 have hz3 : ¬ ((c : Int) < (n : Int) + 1) := by omega
 have hb2 : ¬ (c = i + 1) := by omega
 have hb4 : ¬ (c = i) := by omega
 have hb3 : (i : Int) ≤ (n : Int) + 1 := by omega
 have hb5 : (i : Int) + 1 ≤ (n : Int) + 1 := by omega
 have hb6 : (i : Int) ≤ (n : Int) := by omega
 have hb7 : (n : Int) + 1 ≤ (c : Int) := by omega
 have htn : ((i : Int) + 1).toNat = i + 1 := by omega
 have htn2 : ((n : Int) + 1).toNat = n + 1 := by omega
 go_enter Tryz.func89, Tryz.ntmps89
 go_wp2_with (simp only [hov])
 have hxl : ((cur.toList.drop i).take (n - i)).length = n - i := by simp; omega
 have hsrc1 : ∀ W : World, W.heap[g]? = some (.cells cur 23 (0, 0)) → ∀ j v, ((cur.toList.drop i).take (n - i))[j]? = some v → W.cell? ((⟨g, i, none⟩ : Addr).add j) = some v := fun W hW j v hj => by
  rw [Addr.add_lit, cell_of_heap hW]
  rw [List.getElem?_take] at hj
  split at hj
  ·rw [List.getElem?_drop] at hj; simpa using hj
  ·cases hj
 have hone1 : ∀ v ∈ (cur.toList.drop i).take (n - i), v.oneCell' = true := fun v hv => by
  refine h1 v ?_
  have : (cur.toList.drop i).take (n - i) = (cur.toList.take n).drop i := by rw [List.drop_take]
  rw [this] at hv
  exact List.mem_of_mem_drop hv
 have hmn : ((cur.toList.drop i).take (n - i)).length = Nat.min (n + 1 - i) (n + 1 - (i + 1)) := by rw [hxl]; simp only [Nat.min_def]; split <;> omega
 have hfit1 : i + 1 + ((cur.toList.drop i).take (n - i)).length ≤ cur.size := by omega
 have HH := Aside0.mk (And.intro hxl (And.intro hsrc1 (And.intro hone1 (And.intro hmn hfit1))))
 have HG := Aside0.mk hg
 have HVB := Aside0.mk hvb
 have H1 := Aside0.mk h1
 have HC := Aside0.mk hc
 clear hxl hsrc1 hone1 hmn hfit1 hg hvb h1 hc
 have hw1 : IntKind.i64.wrap ((i : Int) + 1) = (i : Int) + 1 := by rw [IntKind.wrap_i64]; omega
 have hb1 : (0 : Int) ≤ (i : Int) + 1 := by omega
 go_region_law (refine step_copy_at rfl _ _ 44 44 rfl 23 Tryz.underlying44 insT_sz g (i + 1) (n + 1 - (i + 1)) (c - (i + 1)) ⟨g, i, none⟩ (n + 1 - i) (c - i) (by simp [Act.eval, Act.put]) (by simp [Act.eval, Act.put]) cur 23 (by exact HG.out) _ (HH.out.2.2.2.1) (HH.out.2.1 _ (by exact HG.out)) HH.out.2.2.2.2 HH.out.2.2.1 ?_; intro w1 hh1 hgr1 hsz1)
 have hvb1 : w1.heap[vb]? = some (.cells #[x] 23 (0, 0)) := by
  rw [hgr1.block vb ((Array.getElem?_eq_some_iff.1 HVB.out).1) (fun e => hne (Option.some.inj e))]; exact HVB.out
 have hcell : ∀ j u, [x][j]? = some u → w1.cell? ((⟨vb, 0, none⟩ : Addr).add j) = some u := fun j u hj => by
  rw [Addr.add_lit, Nat.zero_add, cell_of_heap hvb1]; simpa using hj
 have hmn2 : [x].length = Nat.min 1 (n + 1 - i) := by simp only [List.length_singleton, Nat.min_def]; split <;> omega
 have hL2 := insT_shiftL cur.toList n i x hin (by have := HC.out; simp; omega)
 obtain ⟨cur1, hcur1⟩ : ∃ l, l = cur.toList.take (i + 1) ++ (cur.toList.drop i).take (n - i) ++ cur.toList.drop (i + 1 + ((cur.toList.drop i).take (n - i)).length) := ⟨_, rfl⟩
 rw [← hcur1] at hh1
 simp only [← hcur1] at hL2
 have hcl : cur1.length = c := by
  have h1 := HH.out.1
  have h2 := HC.out
  rw [hcur1]; simp; omega
 have HHH := Aside0.mk (And.intro hh1 (And.intro hcell (And.intro hmn2 hL2)))
 have HCL := Aside0.mk hcl
 have HGR := Aside0.mk hgr1
 clear hh1 hvb1 hcell hmn2 hL2 hcur1 hcl hgr1 hsz1
 go_wp2_with ((with_reducible refine gate_builtin (b := .copy) (xs := #[.tmp 80, .tmp 81]) rfl ?_); refine wpList_copy_at rfl _ _ 44 44 rfl 23 Tryz.underlying44 insT_sz g i (n + 1 - i) (c - i) ⟨vb, 0, none⟩ 1 1 rfl rfl cur1.toArray 23 HHH.out.1 [x] HHH.out.2.2.1 HHH.out.2.1 (by have := HCL.out; simp; omega) (by simpa using hx) ?_; intro w2 hh2 hgr2 hsz2)
 go_ret
 have hfin := HHH.out.2.2.2
 have hcc := HC.out
 refine ⟨_, rfl, ⟨?_, .inr ⟨g, c, _, rfl, hbg, hh2, hroom, by unfold maxLen; omega, ?_, ?_⟩⟩, ⟨hgr2.os.trans HGR.out.os, hgr2.tape.trans HGR.out.tape, hgr2.output.trans HGR.out.output, Nat.le_trans HGR.out.size hgr2.size, fun k hk hk2 => (hgr2.block k (Nat.lt_of_lt_of_le hk HGR.out.size) hk2).trans (HGR.out.block k hk hk2)⟩, .inl rfl⟩
 ·unfold insL; simp; omega
 ·have := hfin.2; simp at this ⊢; omega
 ·have := hfin.1; simpa using this
set_option maxHeartbeats 4000000 in
set_option maxRecDepth 100000 in
theorem insT_grow (w : World) (base g : Nat) (cur : Array Value) (n i : Nat) (hbw : base ≤ w.heap.size) (hg : w.heap[g]? = some (.cells cur 23 (0, 0))) (hc : cur.size = n) (hin : i < n) (hn : n ≤ 1000000) (h1 : ∀ u ∈ cur.toList, u.oneCell' = true)
  (x : Value) (hx : x.oneCell' = true) (vb : Nat) (hvb : w.heap[vb]? = some (.cells #[x] 23 (0, 0))) :
  Calls Tryz.prog 89 #[.slice (some ⟨g, 0, none⟩) n n, .int .i64 i, .slice (some ⟨vb, 0, none⟩) 1 1] w (InsT w base (.slice (some ⟨g, 0, none⟩) n n) n (insL cur.toList i x)) := by
 obtain ⟨i0, hi0, hz0, hzs, hzb⟩ := info_parts insT_info
 have hgw := (Array.getElem?_eq_some_iff.1 hg).1
 have hvw := (Array.getElem?_eq_some_iff.1 hvb).1
 have hlen : cur.toList.length = n := by simpa using hc
 have hkk : (n : Int) + 1 - (i : Int) = ((n + 1 - i : Nat) : Int) := by omega
 have hik : i + (n + 1 - i) = n + 1 := by omega
 have hold : (Builtin.firstCells i0.size i (.slice (some ⟨g, 0, none⟩) i n)).run Tryz.prog w.drew = .ok (cur.toList.take i).toArray w.drew := by
  rw [hzs]
  exact run_firstCells_some w.drew 1 i ⟨g, 0, none⟩ i n (cur.toList.take i) (by rw [List.length_take]; omega) (fun j v hj => by
   rw [Addr.add_lit, Nat.zero_add]
   rw [List.getElem?_take] at hj
   split at hj
   ·have : w.drew.cell? ⟨g, j, none⟩ = cur[j]? := cell_of_heap (w := w.drew) hg j
    rw [this]; simpa using hj
   ·cases hj)
 have hrz : ∀ ty, (Builtin.append_ #[44, 3] ty #[.slice (some ⟨g, 0, none⟩) i n, .int .i64 ((n : Int) + 1 - (i : Int))]).run Tryz.prog w =
   .ok (.slice (some ⟨w.heap.size, 0, none⟩) (n + 1) (grownCap w (n + 1) n 23)) (w.drew.alloc (.cells ((cur.toList.take i).toArray ++ Builtin.zeroCells (Value.cells (.slice none 0 0)) (n + 1 - i) ++ Builtin.zeroCells (Value.cells (.slice none 0 0)) (grownCap w (n + 1) n 23 - (n + 1))) 23)) := fun ty => by
  have h := Lib.run_append_grow_zeros w 44 3 ty 23 i0 _ .i64 .i64 Tryz.underlying44 Tryz.underlying3 hi0 hz0 (some ⟨g, 0, none⟩) i n (cur.toList.take i) hold (n + 1 - i) (by omega) (by omega) (by omega) (by omega) (by rw [hzb]; omega) (by rw [hzb, hik]; exact growslice_fits (by omega) (by omega))
  rw [hik] at h
  rw [hkk]
  exact h
 obtain ⟨G, hG⟩ : ∃ G, G = grownCap w (n + 1) n 23 := ⟨_, rfl⟩
 obtain ⟨ROW, hROW⟩ : ∃ ROW : Array Value, ROW = (cur.toList.take i).toArray ++ Builtin.zeroCells (Value.cells (.slice none 0 0)) (n + 1 - i) ++ Builtin.zeroCells (Value.cells (.slice none 0 0)) (G - (n + 1)) := ⟨_, rfl⟩
 rw [← hG] at hrz
 rw [← hROW] at hrz
 have hGn : n + 1 ≤ G := by rw [hG]; exact grownCap_ge w _ _ _
 have hG63 : G ≤ maxLen := by
  have := grownCap_le_maxLen w (n + 1) n 23 (by unfold maxLen; omega)
  rw [← hG] at this
  exact this
 have hRl : ROW.size = G := by
  rw [hROW]
  simp [Builtin.zeroCells, Value.cells]
  omega
 have hRt : ROW.toList.take i = cur.toList.take i := by
  rw [hROW]
  simp only [Array.toList_append, List.append_assoc]
  rw [List.take_append_of_le_length (by simp; omega)]
  show List.take i (List.take i cur.toList) = _
  rw [List.take_take, Nat.min_self]
 obtain ⟨N, hN⟩ : ∃ N, N = w.heap.size := ⟨_, rfl⟩
 obtain ⟨W1, hW1⟩ : ∃ W1, W1 = w.drew.alloc (.cells ROW 23) := ⟨_, rfl⟩
 rw [← hW1, ← hN] at hrz
 have hNh : W1.heap[N]? = some (.cells ROW 23 (0, 0)) := by rw [hW1, hN]; exact heap_alloc_new w.drew _
 have hgr1 : w.grownBy W1 none := by
  rw [hW1]
  exact ⟨rfl, rfl, rfl, by simp [World.alloc], fun k hk _ => by
   show (w.heap.push _)[k]? = w.heap[k]?
   rw [Array.getElem?_push, if_neg (by omega)]⟩
 have hgh : W1.heap[g]? = some (.cells cur 23 (0, 0)) := (hgr1.block g hgw (by simp)).trans hg
 have hvh : W1.heap[vb]? = some (.cells #[x] 23 (0, 0)) := (hgr1.block vb hvw (by simp)).trans hvb
 have HROW := Aside0.mk (And.intro hRl (And.intro hRt (And.intro hGn hG63)))
 have HNH := Aside0.mk (And.intro hNh (And.intro hgh (And.intro hvh hgr1)))
 have HNe := Aside0.mk (show g ≠ N ∧ vb ≠ N ∧ w.heap.size = N by omega)
 have HB := Aside0.mk (And.intro hbw (And.intro hlen (And.intro h1 hin)))
 have hn63 : (n : Int) + 1 ≤ 9223372036854775807 := by omega
 have hz2 : ¬ ((i : Int) = (n : Int)) := by omega
 have hz2' : ((i : Int) == (n : Int)) = false := beq_eq_false_iff_ne.2 hz2
 have hz3 : (n : Int) < (n : Int) + 1 := by omega
 have hGi : ¬ (G = i) := by omega
 have hGim : ¬ (G = i + 1) := by omega
 have hci : ¬ (n = i) := by omega
 have hb3 : (i : Int) ≤ (n : Int) := by omega
 have hb5 : (i : Int) + 1 ≤ (n : Int) + 1 := by omega
 have hb6 : (i : Int) ≤ (n : Int) + 1 := by omega
 have hm1 : [x].length = Nat.min 1 (n + 1 - i) := by simp only [List.length_singleton, Nat.min_def]; split <;> omega
 have HM1 := Aside0.mk hm1
 clear hkk hik hold hROW hG hRl hRt hGn hG63 hN hW1 hNh hgr1 hgh hvh hlen h1 hg hvb hc hm1 hgw hvw hbw hi0 hz0 hzs hzb
 go_enter Tryz.func89, Tryz.ntmps89
 go_wp2_with (first
  | (at_builtin; refine Lib.wpList_append_run _ rfl _ _ _ _ rfl _ _ rfl rfl _ _ (hrz _) ?_)
  | ((with_reducible refine gate_builtin (b := .copy) (xs := #[.tmp 43, .tmp 44]) rfl ?_); refine wpList_copy_at rfl _ _ 44 44 rfl 23 Tryz.underlying44 insT_sz N i (n + 1 - i) (G - i) ⟨vb, 0, none⟩ 1 1 rfl rfl ROW 23 HNH.out.1 [x] HM1.out (fun j u hj => by rw [Addr.add_lit, Nat.zero_add, cell_of_heap HNH.out.2.2.1]; simpa using hj) (by have := HROW.out.1; have := HROW.out.2.2.1; have := HB.out.2.2.2; simp; omega) (by simpa using hx) ?_; intro w2 hh2 hgr2 hsz2))
 have hRL := insT_growL ROW.toList cur.toList n i G x HB.out.2.2.2 HB.out.2.1 (by simpa using HROW.out.1) HROW.out.2.1 HROW.out.2.2.1
 obtain ⟨c2, hc2⟩ : ∃ l, l = List.take i ROW.toList ++ [x] ++ List.drop (i + [x].length) ROW.toList := ⟨_, rfl⟩
 rw [← hc2] at hh2
 simp only [← hc2] at hRL
 have hcl : c2.length = G := by
  have h1 := HROW.out.1
  have h2 := HROW.out.2.2.1
  have h3 := HB.out.2.2.2
  rw [hc2]; simp; omega
 have hg2 : w2.heap[g]? = some (.cells cur 23 (0, 0)) := (hgr2.block g ((Array.getElem?_eq_some_iff.1 HNH.out.2.1).1) (fun e => HNe.out.1 (Option.some.inj e))).trans HNH.out.2.1
 have hsrc : ∀ W : World, W.heap[g]? = some (.cells cur 23 (0, 0)) → ∀ j v, (cur.toList.drop i)[j]? = some v → W.cell? ((⟨g, i, none⟩ : Addr).add j) = some v := fun W hW j v hj => by
  rw [Addr.add_lit, cell_of_heap hW]
  rw [List.getElem?_drop] at hj; simpa using hj
 have hm2 : (cur.toList.drop i).length = Nat.min (n - i) (n + 1 - (i + 1)) := by have := HB.out.2.1; simp only [List.length_drop, Nat.min_def]; split <;> omega
 have hfit : i + 1 + (cur.toList.drop i).length ≤ c2.toArray.size := by
  have h1 := HROW.out.2.2.1
  have h2 := HB.out.2.1
  have h3 := HB.out.2.2.2
  have h4 : cur.toList.length = cur.size := Array.length_toList
  simp [hcl]; omega
 have hone : ∀ v ∈ cur.toList.drop i, v.oneCell' = true := fun v hv => HB.out.2.2.1 v (List.mem_of_mem_drop hv)
 have HX := Aside0.mk (And.intro hh2 (And.intro hg2 (And.intro hsrc (And.intro hm2 (And.intro hfit (And.intro hone hRL))))))
 have HG2 := Aside0.mk hgr2
 clear hh2 hg2 hsrc hm2 hfit hone hRL hc2 hcl hgr2 hsz2
 have hw1 : IntKind.i64.wrap ((i : Int) + 1) = (i : Int) + 1 := by rw [IntKind.wrap_i64]; omega
 have hb1 : (0 : Int) ≤ (i : Int) + 1 := by omega
 have htn : ((i : Int) + 1).toNat = i + 1 := by omega
 go_region_law (refine step_copy_at rfl _ _ 44 44 rfl 23 Tryz.underlying44 insT_sz N (i + 1) (n + 1 - (i + 1)) (G - (i + 1)) ⟨g, i, none⟩ (n - i) (n - i) (by simp [Act.eval, Act.put]) (by simp [Act.eval, Act.put]) c2.toArray 23 (by exact HX.out.1) _ HX.out.2.2.2.1 (HX.out.2.2.1 _ (by exact HX.out.2.1)) HX.out.2.2.2.2.1 HX.out.2.2.2.2.2.1 ?_; intro w3 hh3 hgr3 hsz3)
 go_wp2
 go_ret
 have hfin := HX.out.2.2.2.2.2.2
 have hG1 := HROW.out.2.2
 have hNe := HNe.out
 have hB := HB.out
 have g1 := HNH.out.2.2.2
 have g2 := HG2.out
 refine ⟨_, rfl, ⟨?_, .inr ⟨N, G, _, rfl, by omega, hh3, hG1.1, hG1.2, ?_, ?_⟩⟩, ⟨hgr3.os.trans (g2.os.trans g1.os), hgr3.tape.trans (g2.tape.trans g1.tape), hgr3.output.trans (g2.output.trans g1.output), Nat.le_trans g1.size (Nat.le_trans g2.size hgr3.size), fun k hk _ => ?_⟩, .inr ⟨N, rfl, by omega⟩⟩
 ·have h2 := hB.2.1
  have h3 := hB.2.2.2
  have h4 : cur.toList.length = cur.size := Array.length_toList
  unfold insL; simp; omega
 ·have := hfin.2; simp at this ⊢; omega
 ·have := hfin.1; simpa using this
 ·have hkN : some k ≠ some N := fun e => by have := Option.some.inj e; omega
  exact (hgr3.block k (Nat.lt_of_lt_of_le hk (Nat.le_trans g1.size g2.size)) hkN).trans ((g2.block k (Nat.lt_of_lt_of_le hk g1.size) hkN).trans (g1.block k hk (by simp)))
theorem insT_calls (w : World) (base : Nat) (v : Value) (n : Nat) (xs : List Value) (hown : w.ownsRow base 23 1 v n xs) (h1 : ∀ u ∈ xs, u.oneCell' = true) (i : Nat) (hi : i ≤ n) (x : Value) (hx : x.oneCell' = true) (vb : Nat) (hvb : w.heap[vb]? = some (.cells #[x] 23 (0, 0)))
  (hbase : base ≤ w.heap.size) (hn : n ≤ 1000000) (hne : v.ownBlock ≠ some vb) :
  Calls Tryz.prog 89 #[v, .int .i64 i, .slice (some ⟨vb, 0, none⟩) 1 1] w (InsT w base v n (insL xs i x)) := by
 have hxl : xs.length = n := by simpa using hown.1
 by_cases hin : i = n
 ·subst hin
  have e : insL xs i x = xs ++ [x] := by simp [insL, ← hxl]
  rw [e]
  exact insT_end w base v i xs hown x hx vb hvb hbase hn
 ·rcases hown.2 with ⟨rfl, h0⟩ | ⟨g, cap, cur, rfl, hb, hg, hnc, hcm, hsz, htk⟩
  ·omega
  ·have hsz' : cur.size = cap := by simpa using hsz
   have htk' : cur.toList.take n = xs := by simpa using htk
   have hne' : vb ≠ g := fun e => hne (by simp [Value.ownBlock, e])
   by_cases hr : n + 1 ≤ cap
   ·have := insT_shift w base g cap cur n i hb hg hsz' hcm (by omega) hr (by rw [htk']; exact h1) x hx vb hvb hne'
    rwa [htk'] at this
   ·obtain rfl : cap = n := by omega
    have hall : cur.toList = xs := by rw [← htk']; exact (List.take_of_length_le (by simp; omega)).symm
    have := insT_grow w base g cur cap i hbase hg hsz' (by omega) hn (by rw [hall]; exact h1) x hx vb hvb
    rwa [hall] at this
theorem insN_info : (Tryz.prog.info? 126).map (fun i => (i.zero, i.size, i.bytes)) = some (some (.pointer none), 1, 8) := by kernel_rfl
theorem insN_sz : (Tryz.prog.info? 126).map (·.size) = some 1 := by kernel_rfl
def InsN (w : World) (base : Nat) (v : Value) (n : Nat) (ys : List Value) (e : Ending) (w' : World) : Prop :=
 ∃ v', e = .returned v' ∧ w'.ownsRow base 126 1 v' (n + 1) ys ∧ w.grownBy w' v.ownBlock ∧ (v'.ownBlock = v.ownBlock ∨ ∃ g, v'.ownBlock = some g ∧ w.heap.size ≤ g)
theorem insN_shiftL {α : Type} (L : List α) (n i : Nat) (x : α) (hi : i < n) (hL : n + 1 ≤ L.length) :
  let c1 := L.take (i + 1) ++ (L.drop i).take (n - i) ++ L.drop (i + 1 + ((L.drop i).take (n - i)).length)
  let c2 := c1.take i ++ [x] ++ c1.drop (i + [x].length)
  c2.take (n + 1) = insL (L.take n) i x ∧ c2.length = L.length := by
 intro c1 c2
 have hl : ((L.drop i).take (n - i)).length = n - i := by simp; omega
 have e1 : c1.take i = L.take i := by
  show (L.take (i + 1) ++ (L.drop i).take (n - i) ++ L.drop (i + 1 + ((L.drop i).take (n - i)).length)).take i = L.take i
  rw [List.append_assoc, List.take_append_of_le_length (by simp; omega), List.take_take, Nat.min_eq_left (by omega)]
 have e2 : c1.drop (i + 1) = (L.drop i).take (n - i) ++ L.drop (i + 1 + ((L.drop i).take (n - i)).length) := by
  show (L.take (i + 1) ++ (L.drop i).take (n - i) ++ L.drop (i + 1 + ((L.drop i).take (n - i)).length)).drop (i + 1) = _
  rw [List.append_assoc]
  exact List.drop_left' (by simp; omega)
 have e3 : c2 = L.take i ++ x :: (L.drop i).take (n - i) ++ L.drop (i + 1 + (n - i)) := by
  show c1.take i ++ [x] ++ c1.drop (i + 1) = _
  rw [e1, e2, hl]; simp
 have e4 : (L.take n).drop i = (L.drop i).take (n - i) := by rw [List.drop_take]
 have e5 : (L.take n).take i = L.take i := by rw [List.take_take, Nat.min_eq_left (by omega)]
 constructor
 ·rw [e3]
  unfold insL
  rw [e4, e5]
  exact List.take_left' (by simp; omega)
 ·rw [e3]; simp; omega
theorem insN_growL {α : Type} (R L : List α) (n i G : Nat) (x : α) (hi : i < n) (hL : L.length = n) (hR : R.length = G) (hRt : R.take i = L.take i) (hG : n + 1 ≤ G) :
  let c2 := R.take i ++ [x] ++ R.drop (i + [x].length)
  let c3 := c2.take (i + 1) ++ L.drop i ++ c2.drop (i + 1 + (L.drop i).length)
  c3.take (n + 1) = insL L i x ∧ c3.length = G := by
 intro c2 c3
 have hl : (L.drop i).length = n - i := by simp [hL]
 have e1 : c2.take (i + 1) = L.take i ++ [x] := by
  show (R.take i ++ [x] ++ R.drop (i + 1)).take (i + 1) = _
  rw [hRt]
  exact List.take_left' (by simp [hL]; omega)
 have hc2 : c2.length = G := by
  show (R.take i ++ [x] ++ R.drop (i + 1)).length = G
  simp [hR]; omega
 have e3 : c3 = (L.take i ++ x :: L.drop i) ++ c2.drop (i + 1 + (L.drop i).length) := by
  show c2.take (i + 1) ++ L.drop i ++ c2.drop (i + 1 + (L.drop i).length) = _
  rw [e1]; simp
 constructor
 ·rw [e3]
  exact List.take_left' (by simp [hL]; omega)
 ·rw [e3]; simp [hc2, hL]; omega
set_option maxHeartbeats 2000000 in
set_option maxRecDepth 100000 in
theorem insN_end (w : World) (base : Nat) (v : Value) (n : Nat) (xs : List Value) (hown : w.ownsRow base 126 1 v n xs) (x : Value) (hx : x.oneCell' = true) (vb : Nat) (hvb : w.heap[vb]? = some (.cells #[x] 126 (0, 0)))
  (hbase : base ≤ w.heap.size) (hn : n ≤ 1000000) :
  Calls Tryz.prog 91 #[v, .int .i64 n, .slice (some ⟨vb, 0, none⟩) 1 1] w (InsN w base v n (xs ++ [x])) := by
 obtain ⟨i0, hi, hz0, hz1, hz2⟩ := info_parts insN_info
 have hcell : ∀ j u, [x][j]? = some u → w.cell? ((⟨vb, 0, none⟩ : Addr).add j) = some u := fun j u hj => by
  rw [Addr.add_lit, Nat.zero_add, cell_of_heap hvb]; simpa using hj
 obtain ⟨A, c, rfl⟩ : ∃ A c, v = .slice A n c := by
  rcases hown.2 with ⟨rfl, rfl⟩ | ⟨g, cap, cur, rfl, _⟩
  ·exact ⟨_, _, rfl⟩
  ·exact ⟨_, _, rfl⟩
 have hnc : n ≤ c := by
  rcases hown.2 with ⟨h, h2⟩ | ⟨g, cap, cur, h, _, _, h2, _⟩
  ·simp at h; omega
  ·simp at h; omega
 by_cases hcn : c = n
 ·subst hcn
  go_enter Tryz.func91, Tryz.ntmps91
  go_wp2_with (at_builtin; refine wpList_append_own_at _ rfl _ _ 130 rfl base 126 i0 (.pointer none) 1 8 Tryz.underlying130 hi hz0 hz1 hz2 rfl (by decide) (.slice A c c) c xs rfl hown ⟨vb, 0, none⟩ 1 1 [x] rfl rfl hcell (by simpa using hx) (by unfold maxLen; omega) (by omega) hbase ?_; intro v' w1 hown1 hg1 _ hat1)
  go_ret
  exact ⟨_, rfl, hown1, hg1, hat1.imp id (fun h => ⟨_, h, Nat.le_refl _⟩)⟩
 ·skip
  go_enter Tryz.func91, Tryz.ntmps91
  go_wp2_with (at_builtin; refine wpList_append_own_at _ rfl _ _ 130 rfl base 126 i0 (.pointer none) 1 8 Tryz.underlying130 hi hz0 hz1 hz2 rfl (by decide) (.slice A n c) n xs rfl hown ⟨vb, 0, none⟩ 1 1 [x] rfl rfl hcell (by simpa using hx) (by unfold maxLen; omega) (by omega) hbase ?_; intro v' w1 hown1 hg1 _ hat1)
  go_ret
  exact ⟨_, rfl, hown1, hg1, hat1.imp id (fun h => ⟨_, h, Nat.le_refl _⟩)⟩
theorem insN_over (w : World) (x : Value) (vb g i n c : Nat) (cur : Array Value) (hvb : w.heap[vb]? = some (.cells #[x] 126 (0, 0))) (hg : w.heap[g]? = some (.cells cur 126 (0, 0))) (hne : vb ≠ g) (hc : 0 < cur.size) :
  ∀ lb cb, (callFunc 110 #[.slice (some ⟨vb, 0, none⟩) 1 1, .slice (some ⟨g, i, none⟩) lb cb]).run Tryz.prog w = .ok (.value (.bool false)) w := fun lb cb => by
 rw [run_callFunc_extern Tryz.func110 (by kernel_rfl) (by kernel_rfl) (by kernel_rfl) (e := Extern.SlicesOverlaps.overlaps #[130, 130] #[4]) (by kernel_rfl),
  Lib.run_overlaps_apart w 130 4 126 Tryz.underlying130 1 (fun w => by kernel_rfl) ⟨vb, 0, none⟩ ⟨g, i, none⟩ 1 1 lb cb hne 126 126 1 cur.size (shape_of_heap hvb) (shape_of_heap hg) (by omega) (free_of_heap hvb 0) (free_of_heap hvb 1)]
 rfl
set_option maxHeartbeats 4000000 in
set_option maxRecDepth 100000 in
theorem insN_shift (w : World) (base g c : Nat) (cur : Array Value) (n i : Nat) (hbg : base ≤ g) (hg : w.heap[g]? = some (.cells cur 126 (0, 0))) (hc : cur.size = c) (hc63 : c ≤ maxLen) (hin : i < n) (hroom : n + 1 ≤ c) (h1 : ∀ u ∈ cur.toList.take n, u.oneCell' = true)
  (x : Value) (hx : x.oneCell' = true) (vb : Nat) (hvb : w.heap[vb]? = some (.cells #[x] 126 (0, 0))) (hne : vb ≠ g) :
  Calls Tryz.prog 91 #[.slice (some ⟨g, 0, none⟩) n c, .int .i64 i, .slice (some ⟨vb, 0, none⟩) 1 1] w (InsN w base (.slice (some ⟨g, 0, none⟩) n c) n (insL (cur.toList.take n) i x)) := by
 unfold maxLen at hc63
 have hov := insN_over w x vb g (i + 1) n c cur hvb hg hne (by omega)
 have hz2 : ¬ ((i : Int) = (n : Int)) := by omega
 have hz2' : ((i : Int) == (n : Int)) = false := beq_eq_false_iff_ne.2 hz2
 have hz3 : ¬ ((c : Int) < (n : Int) + 1) := by omega
 have hb2 : ¬ (c = i + 1) := by omega
 have hb4 : ¬ (c = i) := by omega
 have hb3 : (i : Int) ≤ (n : Int) + 1 := by omega
 have hb5 : (i : Int) + 1 ≤ (n : Int) + 1 := by omega
 have hb6 : (i : Int) ≤ (n : Int) := by omega
 have hb7 : (n : Int) + 1 ≤ (c : Int) := by omega
 have htn : ((i : Int) + 1).toNat = i + 1 := by omega
 have htn2 : ((n : Int) + 1).toNat = n + 1 := by omega
 go_enter Tryz.func91, Tryz.ntmps91
 go_wp2_with (simp only [hov])
 have hxl : ((cur.toList.drop i).take (n - i)).length = n - i := by simp; omega
 have hsrc1 : ∀ W : World, W.heap[g]? = some (.cells cur 126 (0, 0)) → ∀ j v, ((cur.toList.drop i).take (n - i))[j]? = some v → W.cell? ((⟨g, i, none⟩ : Addr).add j) = some v := fun W hW j v hj => by
  rw [Addr.add_lit, cell_of_heap hW]
  rw [List.getElem?_take] at hj
  split at hj
  ·rw [List.getElem?_drop] at hj; simpa using hj
  ·cases hj
 have hone1 : ∀ v ∈ (cur.toList.drop i).take (n - i), v.oneCell' = true := fun v hv => by
  refine h1 v ?_
  have : (cur.toList.drop i).take (n - i) = (cur.toList.take n).drop i := by rw [List.drop_take]
  rw [this] at hv
  exact List.mem_of_mem_drop hv
 have hmn : ((cur.toList.drop i).take (n - i)).length = Nat.min (n + 1 - i) (n + 1 - (i + 1)) := by rw [hxl]; simp only [Nat.min_def]; split <;> omega
 have hfit1 : i + 1 + ((cur.toList.drop i).take (n - i)).length ≤ cur.size := by omega
 have HH := Aside0.mk (And.intro hxl (And.intro hsrc1 (And.intro hone1 (And.intro hmn hfit1))))
 have HG := Aside0.mk hg
 have HVB := Aside0.mk hvb
 have H1 := Aside0.mk h1
 have HC := Aside0.mk hc
 clear hxl hsrc1 hone1 hmn hfit1 hg hvb h1 hc
 have hw1 : IntKind.i64.wrap ((i : Int) + 1) = (i : Int) + 1 := by rw [IntKind.wrap_i64]; omega
 have hb1 : (0 : Int) ≤ (i : Int) + 1 := by omega
 go_region_law (refine step_copy_at rfl _ _ 130 130 rfl 126 Tryz.underlying130 insN_sz g (i + 1) (n + 1 - (i + 1)) (c - (i + 1)) ⟨g, i, none⟩ (n + 1 - i) (c - i) (by simp [Act.eval, Act.put]) (by simp [Act.eval, Act.put]) cur 126 (by exact HG.out) _ (HH.out.2.2.2.1) (HH.out.2.1 _ (by exact HG.out)) HH.out.2.2.2.2 HH.out.2.2.1 ?_; intro w1 hh1 hgr1 hsz1)
 have hvb1 : w1.heap[vb]? = some (.cells #[x] 126 (0, 0)) := by
  rw [hgr1.block vb ((Array.getElem?_eq_some_iff.1 HVB.out).1) (fun e => hne (Option.some.inj e))]; exact HVB.out
 have hcell : ∀ j u, [x][j]? = some u → w1.cell? ((⟨vb, 0, none⟩ : Addr).add j) = some u := fun j u hj => by
  rw [Addr.add_lit, Nat.zero_add, cell_of_heap hvb1]; simpa using hj
 have hmn2 : [x].length = Nat.min 1 (n + 1 - i) := by simp only [List.length_singleton, Nat.min_def]; split <;> omega
 have hL2 := insN_shiftL cur.toList n i x hin (by have := HC.out; simp; omega)
 obtain ⟨cur1, hcur1⟩ : ∃ l, l = cur.toList.take (i + 1) ++ (cur.toList.drop i).take (n - i) ++ cur.toList.drop (i + 1 + ((cur.toList.drop i).take (n - i)).length) := ⟨_, rfl⟩
 rw [← hcur1] at hh1
 simp only [← hcur1] at hL2
 have hcl : cur1.length = c := by
  have h1 := HH.out.1
  have h2 := HC.out
  rw [hcur1]; simp; omega
 have HHH := Aside0.mk (And.intro hh1 (And.intro hcell (And.intro hmn2 hL2)))
 have HCL := Aside0.mk hcl
 have HGR := Aside0.mk hgr1
 clear hh1 hvb1 hcell hmn2 hL2 hcur1 hcl hgr1 hsz1
 go_wp2_with ((with_reducible refine gate_builtin (b := .copy) (xs := #[.tmp 80, .tmp 81]) rfl ?_); refine wpList_copy_at rfl _ _ 130 130 rfl 126 Tryz.underlying130 insN_sz g i (n + 1 - i) (c - i) ⟨vb, 0, none⟩ 1 1 rfl rfl cur1.toArray 126 HHH.out.1 [x] HHH.out.2.2.1 HHH.out.2.1 (by have := HCL.out; simp; omega) (by simpa using hx) ?_; intro w2 hh2 hgr2 hsz2)
 go_ret
 have hfin := HHH.out.2.2.2
 have hcc := HC.out
 refine ⟨_, rfl, ⟨?_, .inr ⟨g, c, _, rfl, hbg, hh2, hroom, by unfold maxLen; omega, ?_, ?_⟩⟩, ⟨hgr2.os.trans HGR.out.os, hgr2.tape.trans HGR.out.tape, hgr2.output.trans HGR.out.output, Nat.le_trans HGR.out.size hgr2.size, fun k hk hk2 => (hgr2.block k (Nat.lt_of_lt_of_le hk HGR.out.size) hk2).trans (HGR.out.block k hk hk2)⟩, .inl rfl⟩
 ·unfold insL; simp; omega
 ·have := hfin.2; simp at this ⊢; omega
 ·have := hfin.1; simpa using this
set_option maxHeartbeats 4000000 in
set_option maxRecDepth 100000 in
theorem insN_grow (w : World) (base g : Nat) (cur : Array Value) (n i : Nat) (hbw : base ≤ w.heap.size) (hg : w.heap[g]? = some (.cells cur 126 (0, 0))) (hc : cur.size = n) (hin : i < n) (hn : n ≤ 1000000) (h1 : ∀ u ∈ cur.toList, u.oneCell' = true)
  (x : Value) (hx : x.oneCell' = true) (vb : Nat) (hvb : w.heap[vb]? = some (.cells #[x] 126 (0, 0))) :
  Calls Tryz.prog 91 #[.slice (some ⟨g, 0, none⟩) n n, .int .i64 i, .slice (some ⟨vb, 0, none⟩) 1 1] w (InsN w base (.slice (some ⟨g, 0, none⟩) n n) n (insL cur.toList i x)) := by
 obtain ⟨i0, hi0, hz0, hzs, hzb⟩ := info_parts insN_info
 have hgw := (Array.getElem?_eq_some_iff.1 hg).1
 have hvw := (Array.getElem?_eq_some_iff.1 hvb).1
 have hlen : cur.toList.length = n := by simpa using hc
 have hkk : (n : Int) + 1 - (i : Int) = ((n + 1 - i : Nat) : Int) := by omega
 have hik : i + (n + 1 - i) = n + 1 := by omega
 have hold : (Builtin.firstCells i0.size i (.slice (some ⟨g, 0, none⟩) i n)).run Tryz.prog w.drew = .ok (cur.toList.take i).toArray w.drew := by
  rw [hzs]
  exact run_firstCells_some w.drew 1 i ⟨g, 0, none⟩ i n (cur.toList.take i) (by rw [List.length_take]; omega) (fun j v hj => by
   rw [Addr.add_lit, Nat.zero_add]
   rw [List.getElem?_take] at hj
   split at hj
   ·have : w.drew.cell? ⟨g, j, none⟩ = cur[j]? := cell_of_heap (w := w.drew) hg j
    rw [this]; simpa using hj
   ·cases hj)
 have hrz : ∀ ty, (Builtin.append_ #[130, 3] ty #[.slice (some ⟨g, 0, none⟩) i n, .int .i64 ((n : Int) + 1 - (i : Int))]).run Tryz.prog w =
   .ok (.slice (some ⟨w.heap.size, 0, none⟩) (n + 1) (grownCap w (n + 1) n 126)) (w.drew.alloc (.cells ((cur.toList.take i).toArray ++ Builtin.zeroCells (Value.cells (.pointer none)) (n + 1 - i) ++ Builtin.zeroCells (Value.cells (.pointer none)) (grownCap w (n + 1) n 126 - (n + 1))) 126)) := fun ty => by
  have h := Lib.run_append_grow_zeros w 130 3 ty 126 i0 _ .i64 .i64 Tryz.underlying130 Tryz.underlying3 hi0 hz0 (some ⟨g, 0, none⟩) i n (cur.toList.take i) hold (n + 1 - i) (by omega) (by omega) (by omega) (by omega) (by rw [hzb]; omega) (by rw [hzb, hik]; exact growslice_fits (by omega) (by omega))
  rw [hik] at h
  rw [hkk]
  exact h
 obtain ⟨G, hG⟩ : ∃ G, G = grownCap w (n + 1) n 126 := ⟨_, rfl⟩
 obtain ⟨ROW, hROW⟩ : ∃ ROW : Array Value, ROW = (cur.toList.take i).toArray ++ Builtin.zeroCells (Value.cells (.pointer none)) (n + 1 - i) ++ Builtin.zeroCells (Value.cells (.pointer none)) (G - (n + 1)) := ⟨_, rfl⟩
 rw [← hG] at hrz
 rw [← hROW] at hrz
 have hGn : n + 1 ≤ G := by rw [hG]; exact grownCap_ge w _ _ _
 have hG63 : G ≤ maxLen := by
  have := grownCap_le_maxLen w (n + 1) n 126 (by unfold maxLen; omega)
  rw [← hG] at this
  exact this
 have hRl : ROW.size = G := by
  rw [hROW]
  simp [Builtin.zeroCells, Value.cells]
  omega
 have hRt : ROW.toList.take i = cur.toList.take i := by
  rw [hROW]
  simp only [Array.toList_append, List.append_assoc]
  rw [List.take_append_of_le_length (by simp; omega)]
  show List.take i (List.take i cur.toList) = _
  rw [List.take_take, Nat.min_self]
 obtain ⟨N, hN⟩ : ∃ N, N = w.heap.size := ⟨_, rfl⟩
 obtain ⟨W1, hW1⟩ : ∃ W1, W1 = w.drew.alloc (.cells ROW 126) := ⟨_, rfl⟩
 rw [← hW1, ← hN] at hrz
 have hNh : W1.heap[N]? = some (.cells ROW 126 (0, 0)) := by rw [hW1, hN]; exact heap_alloc_new w.drew _
 have hgr1 : w.grownBy W1 none := by
  rw [hW1]
  exact ⟨rfl, rfl, rfl, by simp [World.alloc], fun k hk _ => by
   show (w.heap.push _)[k]? = w.heap[k]?
   rw [Array.getElem?_push, if_neg (by omega)]⟩
 have hgh : W1.heap[g]? = some (.cells cur 126 (0, 0)) := (hgr1.block g hgw (by simp)).trans hg
 have hvh : W1.heap[vb]? = some (.cells #[x] 126 (0, 0)) := (hgr1.block vb hvw (by simp)).trans hvb
 have HROW := Aside0.mk (And.intro hRl (And.intro hRt (And.intro hGn hG63)))
 have HNH := Aside0.mk (And.intro hNh (And.intro hgh (And.intro hvh hgr1)))
 have HNe := Aside0.mk (show g ≠ N ∧ vb ≠ N ∧ w.heap.size = N by omega)
 have HB := Aside0.mk (And.intro hbw (And.intro hlen (And.intro h1 hin)))
 have hn63 : (n : Int) + 1 ≤ 9223372036854775807 := by omega
 have hz2 : ¬ ((i : Int) = (n : Int)) := by omega
 have hz2' : ((i : Int) == (n : Int)) = false := beq_eq_false_iff_ne.2 hz2
 have hz3 : (n : Int) < (n : Int) + 1 := by omega
 have hGi : ¬ (G = i) := by omega
 have hGim : ¬ (G = i + 1) := by omega
 have hci : ¬ (n = i) := by omega
 have hb3 : (i : Int) ≤ (n : Int) := by omega
 have hb5 : (i : Int) + 1 ≤ (n : Int) + 1 := by omega
 have hb6 : (i : Int) ≤ (n : Int) + 1 := by omega
 have hm1 : [x].length = Nat.min 1 (n + 1 - i) := by simp only [List.length_singleton, Nat.min_def]; split <;> omega
 have HM1 := Aside0.mk hm1
 clear hkk hik hold hROW hG hRl hRt hGn hG63 hN hW1 hNh hgr1 hgh hvh hlen h1 hg hvb hc hm1 hgw hvw hbw hi0 hz0 hzs hzb
 go_enter Tryz.func91, Tryz.ntmps91
 go_wp2_with (first
  | (at_builtin; refine Lib.wpList_append_run _ rfl _ _ _ _ rfl _ _ rfl rfl _ _ (hrz _) ?_)
  | ((with_reducible refine gate_builtin (b := .copy) (xs := #[.tmp 43, .tmp 44]) rfl ?_); refine wpList_copy_at rfl _ _ 130 130 rfl 126 Tryz.underlying130 insN_sz N i (n + 1 - i) (G - i) ⟨vb, 0, none⟩ 1 1 rfl rfl ROW 126 HNH.out.1 [x] HM1.out (fun j u hj => by rw [Addr.add_lit, Nat.zero_add, cell_of_heap HNH.out.2.2.1]; simpa using hj) (by have := HROW.out.1; have := HROW.out.2.2.1; have := HB.out.2.2.2; simp; omega) (by simpa using hx) ?_; intro w2 hh2 hgr2 hsz2))
 have hRL := insN_growL ROW.toList cur.toList n i G x HB.out.2.2.2 HB.out.2.1 (by simpa using HROW.out.1) HROW.out.2.1 HROW.out.2.2.1
 obtain ⟨c2, hc2⟩ : ∃ l, l = List.take i ROW.toList ++ [x] ++ List.drop (i + [x].length) ROW.toList := ⟨_, rfl⟩
 rw [← hc2] at hh2
 simp only [← hc2] at hRL
 have hcl : c2.length = G := by
  have h1 := HROW.out.1
  have h2 := HROW.out.2.2.1
  have h3 := HB.out.2.2.2
  rw [hc2]; simp; omega
 have hg2 : w2.heap[g]? = some (.cells cur 126 (0, 0)) := (hgr2.block g ((Array.getElem?_eq_some_iff.1 HNH.out.2.1).1) (fun e => HNe.out.1 (Option.some.inj e))).trans HNH.out.2.1
 have hsrc : ∀ W : World, W.heap[g]? = some (.cells cur 126 (0, 0)) → ∀ j v, (cur.toList.drop i)[j]? = some v → W.cell? ((⟨g, i, none⟩ : Addr).add j) = some v := fun W hW j v hj => by
  rw [Addr.add_lit, cell_of_heap hW]
  rw [List.getElem?_drop] at hj; simpa using hj
 have hm2 : (cur.toList.drop i).length = Nat.min (n - i) (n + 1 - (i + 1)) := by have := HB.out.2.1; simp only [List.length_drop, Nat.min_def]; split <;> omega
 have hfit : i + 1 + (cur.toList.drop i).length ≤ c2.toArray.size := by
  have h1 := HROW.out.2.2.1
  have h2 := HB.out.2.1
  have h3 := HB.out.2.2.2
  have h4 : cur.toList.length = cur.size := Array.length_toList
  simp [hcl]; omega
 have hone : ∀ v ∈ cur.toList.drop i, v.oneCell' = true := fun v hv => HB.out.2.2.1 v (List.mem_of_mem_drop hv)
 have HX := Aside0.mk (And.intro hh2 (And.intro hg2 (And.intro hsrc (And.intro hm2 (And.intro hfit (And.intro hone hRL))))))
 have HG2 := Aside0.mk hgr2
 clear hh2 hg2 hsrc hm2 hfit hone hRL hc2 hcl hgr2 hsz2
 have hw1 : IntKind.i64.wrap ((i : Int) + 1) = (i : Int) + 1 := by rw [IntKind.wrap_i64]; omega
 have hb1 : (0 : Int) ≤ (i : Int) + 1 := by omega
 have htn : ((i : Int) + 1).toNat = i + 1 := by omega
 go_region_law (refine step_copy_at rfl _ _ 130 130 rfl 126 Tryz.underlying130 insN_sz N (i + 1) (n + 1 - (i + 1)) (G - (i + 1)) ⟨g, i, none⟩ (n - i) (n - i) (by simp [Act.eval, Act.put]) (by simp [Act.eval, Act.put]) c2.toArray 126 (by exact HX.out.1) _ HX.out.2.2.2.1 (HX.out.2.2.1 _ (by exact HX.out.2.1)) HX.out.2.2.2.2.1 HX.out.2.2.2.2.2.1 ?_; intro w3 hh3 hgr3 hsz3)
 go_wp2
 go_ret
 have hfin := HX.out.2.2.2.2.2.2
 have hG1 := HROW.out.2.2
 have hNe := HNe.out
 have hB := HB.out
 have g1 := HNH.out.2.2.2
 have g2 := HG2.out
 refine ⟨_, rfl, ⟨?_, .inr ⟨N, G, _, rfl, by omega, hh3, hG1.1, hG1.2, ?_, ?_⟩⟩, ⟨hgr3.os.trans (g2.os.trans g1.os), hgr3.tape.trans (g2.tape.trans g1.tape), hgr3.output.trans (g2.output.trans g1.output), Nat.le_trans g1.size (Nat.le_trans g2.size hgr3.size), fun k hk _ => ?_⟩, .inr ⟨N, rfl, by omega⟩⟩
 ·have h2 := hB.2.1
  have h3 := hB.2.2.2
  have h4 : cur.toList.length = cur.size := Array.length_toList
  unfold insL; simp; omega
 ·have := hfin.2; simp at this ⊢; omega
 ·have := hfin.1; simpa using this
 ·have hkN : some k ≠ some N := fun e => by have := Option.some.inj e; omega
  exact (hgr3.block k (Nat.lt_of_lt_of_le hk (Nat.le_trans g1.size g2.size)) hkN).trans ((g2.block k (Nat.lt_of_lt_of_le hk g1.size) hkN).trans (g1.block k hk (by simp)))
theorem insN_calls (w : World) (base : Nat) (v : Value) (n : Nat) (xs : List Value) (hown : w.ownsRow base 126 1 v n xs) (h1 : ∀ u ∈ xs, u.oneCell' = true) (i : Nat) (hi : i ≤ n) (x : Value) (hx : x.oneCell' = true) (vb : Nat) (hvb : w.heap[vb]? = some (.cells #[x] 126 (0, 0)))
  (hbase : base ≤ w.heap.size) (hn : n ≤ 1000000) (hne : v.ownBlock ≠ some vb) :
  Calls Tryz.prog 91 #[v, .int .i64 i, .slice (some ⟨vb, 0, none⟩) 1 1] w (InsN w base v n (insL xs i x)) := by
 have hxl : xs.length = n := by simpa using hown.1
 by_cases hin : i = n
 ·subst hin
  have e : insL xs i x = xs ++ [x] := by simp [insL, ← hxl]
  rw [e]
  exact insN_end w base v i xs hown x hx vb hvb hbase hn
 ·rcases hown.2 with ⟨rfl, h0⟩ | ⟨g, cap, cur, rfl, hb, hg, hnc, hcm, hsz, htk⟩
  ·omega
  ·have hsz' : cur.size = cap := by simpa using hsz
   have htk' : cur.toList.take n = xs := by simpa using htk
   have hne' : vb ≠ g := fun e => hne (by simp [Value.ownBlock, e])
   by_cases hr : n + 1 ≤ cap
   ·have := insN_shift w base g cap cur n i hb hg hsz' hcm (by omega) hr (by rw [htk']; exact h1) x hx vb hvb hne'
    rwa [htk'] at this
   ·obtain rfl : cap = n := by omega
    have hall : cur.toList = xs := by rw [← htk']; exact (List.take_of_length_le (by simp; omega)).symm
    have := insN_grow w base g cur cap i hbase hg hsz' (by omega) hn (by rw [hall]; exact h1) x hx vb hvb
    rwa [hall] at this
inductive Els {α β : Type} (R : α → β → Prop) : List α → List β → Prop
 | nil : Els R [] []
 | cons {x : α} {u : β} {xs : List α} {us : List β} : R x u → Els R xs us → Els R (x :: xs) (u :: us)
namespace Els
variable {α β : Type} {R R' : α → β → Prop} {xs ys : List α} {us vs : List β}
theorem len (h : Els R xs us) : us.length = xs.length := by
 induction h with
 | nil => rfl
 | cons _ _ ih => simp [ih]
theorem get (h : Els R xs us) (i : Nat) (hi : i < xs.length) (hu : i < us.length) : R xs[i] us[i] := by
 induction h generalizing i with
 | nil => simp at hi
 | cons h0 _ ih =>
  cases i with
  | zero => exact h0
  | succ i => exact ih i (by simpa using hi) (by simpa using hu)
theorem of (hl : us.length = xs.length) (h : ∀ (i : Nat) (hi : i < xs.length) (hu : i < us.length), R xs[i] us[i]) : Els R xs us := by
 induction xs generalizing us with
 | nil => cases us with
  | nil => exact .nil
  | cons => simp at hl
 | cons x xs ih => cases us with
  | nil => simp at hl
  | cons u us => exact .cons (h 0 (by simp) (by simp)) (ih (by simpa using hl) fun i hi hu => h (i + 1) (by simpa using hi) (by simpa using hu))
theorem append (h : Els R xs us) (k : Els R ys vs) : Els R (xs ++ ys) (us ++ vs) := by
 induction h with
 | nil => exact k
 | cons h0 _ ih => exact .cons h0 ih
theorem take (h : Els R xs us) (n : Nat) : Els R (xs.take n) (us.take n) := by
 induction h generalizing n with
 | nil => simpa using Els.nil
 | cons h0 _ ih => cases n with
  | zero => simpa using Els.nil
  | succ n => simpa using Els.cons h0 (ih n)
theorem drop (h : Els R xs us) (n : Nat) : Els R (xs.drop n) (us.drop n) := by
 induction h generalizing n with
 | nil => simpa using Els.nil
 | cons h0 h1 ih => cases n with
  | zero => simpa using Els.cons h0 h1
  | succ n => simpa using ih n
theorem ins (h : Els R xs us) (i : Nat) {x : α} {u : β} (hx : R x u) : Els R (insL xs i x) (insL us i u) := (h.take i).append (.cons hx (h.drop i))
theorem imp (h : Els R xs us) (hi : ∀ x u, R x u → R' x u) : Els R' xs us := by
 induction h with
 | nil => exact .nil
 | cons h0 _ ih => exact .cons (hi _ _ h0) ih
theorem set (h : Els R xs us) (i : Nat) {x : α} {u : β} (hx : R x u) : Els R (xs.set i x) (us.set i u) := by
 induction h generalizing i with
 | nil => simpa using Els.nil
 | cons h0 h1 ih => cases i with
  | zero => exact .cons hx h1
  | succ i => exact .cons h0 (ih i)
end Els
def El {α : Type} (d : Kd α) (W : World) (ok : Nat → Prop) (x : α) (u : Value) : Prop := Kd.FK d W ok x [u]
theorem El.step {α : Type} {d : Kd α} {W W1 : World} {ok : Nat → Prop} {x : α} {u : Value} (h : El d W ok x u) (hm : ∀ k, ok k → k < W.heap.size → W1.heap[k]? = W.heap[k]?) : El d W1 ok x u := Foot.step h hm
theorem El.mono {α : Type} {d : Kd α} {W : World} {ok ok' : Nat → Prop} {x : α} {u : Value} (h : El d W ok x u) (hm : ∀ k, ok k → ok' k) : El d W ok' x u := Foot.mono h hm
theorem El.one {α : Type} {d : Kd α} {W : World} {ok : Nat → Prop} {x : α} {u : Value} (h : El d W ok x u) : u.oneCell' = true := d.K_one (Kd.FK_now h) u (by simp)
theorem els_one {α : Type} {d : Kd α} {W : World} {ok : Nat → Prop} {xs : List α} {us : List Value} (h : Els (El d W ok) xs us) : ∀ u ∈ us, u.oneCell' = true := fun u hu => by
 obtain ⟨i, hi, rfl⟩ := List.getElem_of_mem hu
 exact (h.get i (by rw [← h.len]; exact hi) hi).one
theorem els_step {α : Type} {d : Kd α} {W W1 : World} {ok : Nat → Prop} {xs : List α} {us : List Value} (h : Els (El d W ok) xs us) (hm : ∀ k, ok k → k < W.heap.size → W1.heap[k]? = W.heap[k]?) : Els (El d W1 ok) xs us := h.imp fun _ _ h => h.step hm
theorem rows_out {α : Type} {d : Kd α} {W : World} {ok : Nat → Prop} {A : Option Addr} {n : Nat} {xs : List α} (hd : d.sz = 1) (h : Kd.F d W ok A n xs) :
  ∃ us : List Value, Els (El d W ok) xs us ∧ us.length = n ∧ (A = none → n = 0) ∧ (∀ ad, A = some ad → ∀ j u, us[j]? = some u → W.cell? (ad.add j) = some u) := by
 have hl : xs.length = n := Kd.F_len h
 cases hA : A with
 | none =>
  have h0 : n = 0 := by
   rcases Nat.eq_zero_or_pos n with h0 | h0
   ·exact h0
   ·obtain ⟨ad, e, _⟩ := (Kd.F_now h).2.2 h0
    rw [hA] at e; cases e
  have : xs = [] := List.length_eq_zero_iff.1 (by omega)
  subst this
  exact ⟨[], .nil, by simpa using h0.symm, fun _ => h0, fun ad e => by cases e⟩
 | some ad =>
  have key : ∀ i (hi : i < xs.length), ∃ u, El d W ok xs[i] u ∧ W.cell? (ad.add i) = some u := fun i hi => by
   obtain ⟨ad', c, e, hcl, hK, hcc, _⟩ := Kd.F_get h xs[i] (i : Int) (by omega) (by omega)
   rw [hA] at e
   injection e with e
   subst e
   simp only [Int.toNat_natCast] at hK hcc
   rw [hd] at hcl hcc
   obtain ⟨u, rfl⟩ : ∃ u, c = [u] := by
    match c, hcl with
    | [u], _ => exact ⟨u, rfl⟩
   refine ⟨u, ?_, by simpa using hcc 0 u rfl⟩
   have eg : xs.getD i xs[i] = xs[i] := by simp [hi]
   rw [eg] at hK
   exact hK
  obtain ⟨us, hus⟩ : ∃ us : List Value, us = (List.range xs.length).map fun i => (W.cell? (ad.add i)).getD undef := ⟨_, rfl⟩
  have hul : us.length = xs.length := by simp [hus]
  have hget : ∀ i (hi : i < us.length), W.cell? (ad.add i) = some us[i] := fun i hi => by
   obtain ⟨u, _, hc⟩ := key i (by omega)
   simp [hus, hc]
  refine ⟨us, Els.of hul (fun i hi hu => ?_), by omega, (fun e => by cases e), fun ad' e j u hj => ?_⟩
  ·obtain ⟨u, hE, hc⟩ := key i hi
   have := hget i hu
   rw [hc] at this
   injection this with this
   rw [← this]; exact hE
  ·injection e with e
   subst e
   obtain ⟨hjl, hjp⟩ := List.getElem?_eq_some_iff.1 hj
   rw [hget j hjl, hjp]
theorem rows_in {α : Type} {d : Kd α} {W : World} {ok : Nat → Prop} {base e : Nat} {v : Value} {n : Nat} {xs : List α} {us : List Value} (hd : d.sz = 1) (ho : W.ownsRow base e 1 v n us) (h : Els (El d W ok) xs us) (hn : n = xs.length) :
  ∃ A c, v = .slice A xs.length c ∧ xs.length ≤ c ∧ Kd.F d W (fun k => ok k ∨ some k = v.ownBlock) A xs.length xs := by
 subst hn
 rcases ho.2 with ⟨rfl, h0⟩ | ⟨g, cap, cur, rfl, hbg, hg, hle, hmax, hsz, htk⟩
 ·have : xs = [] := List.length_eq_zero_iff.1 h0
  subst this
  exact ⟨none, 0, rfl, Nat.le_refl _, Kd.F_nil d W _⟩
 ·refine ⟨some ⟨g, 0, none⟩, cap, rfl, hle, fun W' hW => ⟨rfl, by unfold maxLen at hmax; omega, fun _ => ⟨_, rfl, fun j p hj => ?_⟩⟩⟩
  obtain ⟨hjl, hjp⟩ := List.getElem?_eq_some_iff.1 hj
  have hju : j < us.length := by rw [h.len]; exact hjl
  have hE := h.get j hjl hju
  rw [hjp] at hE
  have hgl := (Array.getElem?_eq_some_iff.1 hg).1
  have hg' : W'.heap[g]? = some (.cells cur e (0, 0)) := (hW g (.inr rfl) hgl).trans hg
  refine ⟨[us[j]], hd.symm, hE W' (fun k hk hlt => hW k (.inl hk) hlt), fun t u ht => ?_⟩
  have ht0 : t = 0 := by
   match t, ht with
   | 0, _ => rfl
  subst ht0
  have hu : us[j] = u := by simpa using ht
  rw [hd, Addr.add_lit, cell_of_heap hg']
  have h1 : (cur.toList.take (xs.length * 1))[j]? = some us[j] := by rw [htk]; exact List.getElem?_eq_getElem hju
  rw [List.getElem?_take] at h1
  split at h1
  ·rw [← hu]; simpa using h1
  ·cases h1
theorem el_tup {W : World} {ok : Nat → Prop} {t : Tp} {u : Value} (h : El KT W ok t u) : ∃ A c, u = .slice A t.length c ∧ t.length ≤ c ∧ Kd.F (Kd.int .i64) W ok A t.length t := by
 obtain ⟨A, c, e, hl, hC⟩ := Kd.FK_now h
 injection e with e _
 subst e
 refine ⟨A, c, rfl, hl, fun W' hW => ?_⟩
 obtain ⟨A', c', e, hl', hC'⟩ := h W' hW
 injection e with e _
 injection e with e1 e2 e3
 subst e1
 exact hC'
theorem tup_el {W : World} {ok : Nat → Prop} {t : Tp} {A : Option Addr} {c : Nat} (hl : t.length ≤ c) (h : Kd.F (Kd.int .i64) W ok A t.length t) : El KT W ok t (.slice A t.length c) := fun W' hW => ⟨A, c, rfl, hl, h W' hW⟩
theorem nod_el {W : World} {ok : Nat → Prop} (b : Nat) : El KN W ok b (.pointer (some ⟨b, 0, none⟩)) := fun W' hW => rfl
theorem el_nod {W : World} {ok : Nat → Prop} {b : Nat} {u : Value} (h : El KN W ok b u) : u = .pointer (some ⟨b, 0, none⟩) := by
 have := Kd.FK_now h
 have e : [u] = [Value.pointer (some ⟨b, 0, none⟩)] := this
 injection e
def Plus (ok : Nat → Prop) (n : Nat) : Nat → Prop := fun k => ok k ∨ n ≤ k
theorem own_ge {W : World} {base e s : Nat} {v : Value} {n : Nat} {xs : List Value} (h : W.ownsRow base e s v n xs) : ∀ k, some k = v.ownBlock → base ≤ k := by
 rcases h.2 with ⟨rfl, _⟩ | ⟨g, cap, cur, rfl, hb, _⟩
 ·intro k hk; simp [Value.ownBlock] at hk
 ·intro k hk
  have : k = g := by simpa [Value.ownBlock] using hk
  omega
theorem own_lt {W : World} {base e s : Nat} {v : Value} {n : Nat} {xs : List Value} (h : W.ownsRow base e s v n xs) : ∀ k, some k = v.ownBlock → k < W.heap.size := by
 rcases h.2 with ⟨rfl, _⟩ | ⟨g, cap, cur, rfl, hb, hg, _⟩
 ·intro k hk; simp [Value.ownBlock] at hk
 ·intro k hk
  have : k = g := by simpa [Value.ownBlock] using hk
  subst this
  exact (Array.getElem?_eq_some_iff.1 hg).1
theorem cloneT_calls (W : World) (ok : Nat → Prop) (A : Option Addr) (c : Nat) (ts : List Tp) (h : Kd.F KT W ok A ts.length ts) (hn : ts.length ≤ 1000000) :
  Calls Tryz.prog 90 #[.slice A ts.length c] W fun e w' => ∃ v us, e = .returned v ∧ Els (El KT W ok) ts us ∧ w'.ownsRow W.heap.size 23 1 v ts.length us ∧ Below W.heap.size W w' := by
 obtain ⟨us, hE, hl, hA, hc⟩ := rows_out rfl h
 refine (clT_calls W A ts.length c us hl hA hc (els_one hE) (by omega) (by unfold maxLen; omega)).mono ?_
 rintro e w' ⟨v, rfl, ho, hb⟩
 exact ⟨v, us, rfl, hE, ho, hb⟩
theorem cloneN_calls (W : World) (ok : Nat → Prop) (A : Option Addr) (c : Nat) (ps : List Nat) (h : Kd.F KN W ok A ps.length ps) (hn : ps.length ≤ 1000000) :
  Calls Tryz.prog 88 #[.slice A ps.length c] W fun e w' => ∃ v us, e = .returned v ∧ Els (El KN W ok) ps us ∧ w'.ownsRow W.heap.size 126 1 v ps.length us ∧ Below W.heap.size W w' := by
 obtain ⟨us, hE, hl, hA, hc⟩ := rows_out rfl h
 refine (clN_calls W A ps.length c us hl hA hc (els_one hE) (by omega) (by unfold maxLen; omega)).mono ?_
 rintro e w' ⟨v, rfl, ho, hb⟩
 exact ⟨v, us, rfl, hE, ho, hb⟩
theorem cloneI_calls (W : World) (A : Option Addr) (c : Nat) (t : Tp) (h : Sl W A c t) (hn : t.length ≤ 1000000) :
  Calls Tryz.prog 44 #[.slice A t.length c] W fun e w' => ∃ A' c', e = .returned (.slice A' t.length c') ∧ t.length ≤ c' ∧ Kd.F (Kd.int .i64) w' (fun k => W.heap.size ≤ k) A' t.length t ∧ Below W.heap.size W w' := by
 obtain ⟨us, hE, hl, hA, hc⟩ := rows_out rfl (Kd.C_F (Kd.heap_int .i64) h.C)
 refine (clI_calls W A t.length c us hl hA hc (els_one hE) (by omega) (by unfold maxLen; omega)).mono ?_
 rintro e w' ⟨v, rfl, ho, hb⟩
 obtain ⟨A', c', rfl, hle, hF⟩ := rows_in (d := Kd.int .i64) (ok := fun _ => False) rfl ho (hE.imp fun x u hx => fun W' _ => (show (Kd.int .i64).K W x [u] from Kd.FK_now hx)) rfl
 exact ⟨A', c', rfl, hle, Kd.F_mono hF (fun k hk => hk.elim False.elim (own_ge ho k)), hb⟩
end Go.Proofs.YtcmllllbmgcnlaaGreat.Tup
end
