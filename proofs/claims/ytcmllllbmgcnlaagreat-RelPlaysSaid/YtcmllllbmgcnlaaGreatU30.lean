/- Own texts, joined and cut to what the claim stands on: RlRd, RlLaw1, RlSame, RlFindL, RlFind. -/
import Derived.Test.YtcmllllbmgcnlaaGreatU29
import Derived.Test.YtcmllllbmgcnlaaGreatU25
section
namespace Go.Proofs.YtcmllllbmgcnlaaGreat.Rl
open Go.RowKit Go.Lib Go.Shelf Go.Proofs.YtcmllllbmgcnlaaGreat.G Go.Proofs.YtcmllllbmgcnlaaGreat.Tup Go.Proofs.YtcmllllbmgcnlaaGreatW.PrintWords Go.Proofs.YtcmllllbmgcnlaaGreatW.PrintLast Go.Proofs.YtcmllllbmgcnlaaGreatW.PrintMore
set_option linter.unusedVariables false
set_option linter.unusedSimpArgs false
abbrev KR : Kd Row := Kd.pair KT (Kd.pair (Kd.int .i64) (Kd.int .i64))
def Elt.enc3 (e : Elt) : List Value := [e.v, .int .i64 e.n.1, .int .i64 e.n.2]
theorem flat_get3 : ∀ (L : List Elt) (t : Nat), (L.flatMap Elt.enc3)[t]? = (L[t / 3]?).bind fun x => x.enc3[t % 3]?
 | [], t => by simp
 | x :: L, 0 => rfl
 | x :: L, 1 => rfl
 | x :: L, 2 => rfl
 | x :: L, t + 3 => by
  rw [List.flatMap_cons, List.getElem?_append_right (by simp [Elt.enc3]), show t + 3 - x.enc3.length = t from by simp [Elt.enc3], flat_get3 L t, show (t + 3) / 3 = t / 3 + 1 from by omega, show (t + 3) % 3 = t % 3 from by omega]
  simp
theorem elt_fk {W : World} {base : Nat} {e : Elt} (h : e.At W base) : Kd.FK KR W (fun k => base ≤ k ∧ k < W.heap.size ∧ IsInts W k) e.row e.enc3 := by
 intro W' hW
 obtain ⟨A', c', e', hle, hF⟩ := rows_in (d := Kd.int .i64) (ok := fun _ => False) rfl h (Els.of (by simp) fun i hi hu => by rw [List.getElem_map]; exact fun W' _ => rfl) rfl
 unfold Elt.v at e'
 injection e' with e1 e2 e3
 subst e1 e3
 refine ⟨[e.v], [.int .i64 e.n.1, .int .i64 e.n.2], rfl, ?_, ⟨[.int .i64 e.n.1], [.int .i64 e.n.2], rfl, rfl, rfl⟩⟩
 refine tup_el (W := W') hle (Kd.F_mono (Kd.F_step hF fun k hk hlt => hW k ?_ hlt) fun k hk => hk) W' fun k _ _ => rfl
 rcases hk with hk | hk
 ·exact hk.elim
 ·exact ⟨own_ge h k hk, Tup.own_lt h k hk, h.isInts k hk.symm⟩
theorem rows3 {W : World} {base N n c : Nat} {A : Option Addr} {es : List Elt} (ho : W.ownsRow N 61 3 (.slice A n c) n (es.flatMap Elt.enc3)) (hl : es.length = n) (ha : ∀ e ∈ es, e.At W base) : n ≤ c ∧ Kd.F KR W (fun k => (base ≤ k ∧ k < W.heap.size ∧ IsInts W k) ∨ some k = (Value.slice A n c).ownBlock) A n (es.map Elt.row) := by
 rcases ho.2 with ⟨e, h0⟩ | ⟨g, cap, cur, e, hbg, hg, hle, hmax, hsz, htk⟩
 ·injection e with e1 e2 e3
  subst e1 e2 e3
  have : es = [] := List.length_eq_zero_iff.1 hl
  subst this
  exact ⟨Nat.le_refl _, Kd.F_nil KR W _⟩
 ·injection e with e1 e2 e3
  subst e1 e3
  refine ⟨hle, fun W' hW => ⟨by simp [hl], by unfold maxLen at hmax; omega, fun _ => ⟨_, rfl, fun j p hj => ?_⟩⟩⟩
  rw [List.getElem?_map] at hj
  obtain ⟨e, he, rfl⟩ := Option.map_eq_some_iff.1 hj
  obtain ⟨hjl, hje⟩ := List.getElem?_eq_some_iff.1 he
  have hem : e ∈ es := by rw [← hje]; exact List.getElem_mem hjl
  have hg' : W'.heap[g]? = some (.cells cur 61 (0, 0)) := (hW g (.inr rfl) (Array.getElem?_eq_some_iff.1 hg).1).trans hg
  refine ⟨e.enc3, rfl, elt_fk (ha e hem) W' (fun k hk hlt => hW k (.inl hk) hlt), fun t u ht => ?_⟩
  have ht3 : t < 3 := (List.getElem?_eq_some_iff.1 ht).1
  rw [show Kd.sz KR = 3 from rfl, Addr.add_lit, Nat.zero_add, Tup.cell_of_heap hg']
  have h1 : (cur.toList.take (n * 3))[j * 3 + t]? = some u := by
   rw [htk, flat_get3, show (j * 3 + t) / 3 = j from by omega, show (j * 3 + t) % 3 = t from by omega, he]
   exact ht
  rw [List.getElem?_take] at h1
  split at h1
  ·simpa using h1
  ·cases h1
def RowsI (w : World) (B B2 B3 N : Nat) (pre : List Row) (W : World) : Prop :=
 ∃ (A : Option Addr) (c : Nat) (es : List Elt), Boxed W B 46 (.slice A pre.length c) ∧ Boxed W B2 46 (.slice none 0 0) ∧ Boxed W B3 4 (.bool false) ∧ N ≤ W.heap.size ∧ W.ownsRow N 61 3 (.slice A pre.length c) pre.length (es.flatMap Elt.enc3) ∧ es.map Elt.row = pre ∧ (∀ e ∈ es, e.At W w.heap.size) ∧ Below w.heap.size w W
theorem infoW : (Tryz.prog.info? 61).map (fun i => (i.zero, i.size, i.bytes)) = some (some (.agg #[.slice none 0 0, .int .i64 0, .int .i64 0]), 3, 40) := by kernel_rfl
theorem rowsI_own (w : World) (B B2 B3 N M : Nat) (hB : w.heap.size ≤ M) : OwnFrom M (RowsI w B B2 B3 N) := by
 rintro pre X Y row ⟨A, c, es, hb, hb2, hb3, hNX, ho, ht, ha, hB0⟩ hg hr
 have hr' : ∀ r, row = some r → ∃ o : Obj, X.heap[r]? = some o ∧ o.isCells = false := fun r e => (hr r e).2
 refine ⟨A, c, es, (isCells_kept ⟨_, hb, rfl⟩ hg hr').1.trans hb, (isCells_kept ⟨_, hb2, rfl⟩ hg hr').1.trans hb2, (isCells_kept ⟨_, hb3, rfl⟩ hg hr').1.trans hb3, Nat.le_trans hNX hg.size, own_move ho fun k hk => ?_, ht, fun e he => (ha e he).move fun k hk => (isCells_kept hk.cells hg hr').1, hB0.grown hg hB0.size (fun k e => by have := (hr k e).1; omega)⟩
 obtain ⟨cells, hc⟩ := own_typed ho k hk
 exact (isCells_kept ⟨_, hc, rfl⟩ hg hr').1
theorem rowsI_more {w W w5 w7 : World} {B B2 B3 N a : Nat} {pre : List Row} {x : Row} {A A2 : Option Addr} {c c2 g' cap' : Nat} {es : List Elt} (hwB2 : w.heap.size ≤ B2) (h23 : B2 < B3) (h3B : B3 < B) (hBa : B < a) (haN : a ≤ N) (hNW : N ≤ W.heap.size) (hb : Boxed W B 46 (.slice A pre.length c)) (hb2 : Boxed W B2 46 (.slice none 0 0)) (hb3 : Boxed W B3 4 (.bool false)) (ho : W.ownsRow N 61 3 (.slice A pre.length c) pre.length (es.flatMap Elt.enc3)) (ht : es.map Elt.row = pre) (ha : ∀ e ∈ es, e.At W w.heap.size) (hB0 : Below w.heap.size w W)
  (hh : Given a N W A2 c2 x.1) (hs : Since W w5)
  (hown' : w7.ownsRow N 61 3 (.slice (some ⟨g', 0, none⟩) (pre.length + 1) cap') (pre.length + 1) (es.flatMap Elt.enc3 ++ [.slice A2 x.1.length c2, .int .i64 x.2.1, .int .i64 x.2.2])) (hgrow : (w5.alloc (.cells #[.slice A2 x.1.length c2, .int .i64 x.2.1, .int .i64 x.2.2] 61)).grownBy w7 (Value.slice A pre.length c).ownBlock) :
  RowsI w B B2 B3 N (pre ++ [x]) (w7.setCell ⟨B, 0, none⟩ (.slice (some ⟨g', 0, none⟩) (pre.length + 1) cap')) ∧ KeepsOthers W (w7.setCell ⟨B, 0, none⟩ (.slice (some ⟨g', 0, none⟩) (pre.length + 1) cap')) ∧ (∀ k, k < N → k ≠ B → (w7.setCell ⟨B, 0, none⟩ (.slice (some ⟨g', 0, none⟩) (pre.length + 1) cap')).heap[k]? = W.heap[k]?) ∧ W.heap.size ≤ (w7.setCell ⟨B, 0, none⟩ (.slice (some ⟨g', 0, none⟩) (pre.length + 1) cap')).heap.size := by
 have hs5 := hs.b.size
 have hb5 : Boxed w5 B 46 (.slice A pre.length c) := blk hs.b hb
 have ho5 : w5.ownsRow N 61 3 (.slice A pre.length c) pre.length (es.flatMap Elt.enc3) := own_move ho fun k hk => hs.b.block k (Tup.own_lt ho k hk.symm)
 have hv1 : Boxed w7 B 46 (.slice A pre.length c) := (hb5.alloc _).kept hgrow (hb5.not_row (by decide) ho5)
 have hv2 := hv1.set (.slice (some ⟨g', 0, none⟩) (pre.length + 1) cap')
 have hr2 := hown'.kept (grownBy_setCell' w7 B (.slice (some ⟨g', 0, none⟩) (pre.length + 1) cap')) (.inr (hv1.not_row (by decide) hown').symm)
 have hk2 : KeepsOthers W (w7.setCell ⟨B, 0, none⟩ (.slice (some ⟨g', 0, none⟩) (pre.length + 1) cap')) := by
  refine (((KeepsOthers.of_grownBy (row := none) ⟨hs.b.os, hs.b.tape, hs.b.output, hs.b.size, fun k hk _ => hs.b.block k hk⟩ fun j o ej _ => by cases ej).trans (KeepsOthers.alloc w5 (.cells #[.slice A2 x.1.length c2, .int .i64 x.2.1, .int .i64 x.2.2] 61))).trans (KeepsOthers.of_grownBy hgrow fun j o ej hj => ?_)).trans (KeepsOthers.setCell _ _ _)
  obtain ⟨cells, hc⟩ := own_typed (ho5.alloc (.cells #[.slice A2 x.1.length c2, .int .i64 x.2.1, .int .i64 x.2.2] 61)) j ej
  rw [hc] at hj; cases hj; rfl
 have hb2' : Below w.heap.size W (w7.setCell ⟨B, 0, none⟩ (.slice (some ⟨g', 0, none⟩) (pre.length + 1) cap')) := by
  refine ((((hs.b.mono (by have := hB0.size; omega)).alloc (by have := hB0.size; omega) (.cells #[.slice A2 x.1.length c2, .int .i64 x.2.1, .int .i64 x.2.2] 61)).grown hgrow (by simp; have := hB0.size; omega) fun j ej => ?_)).setCell (p := ⟨B, 0, none⟩) (by show w.heap.size ≤ B; omega) _
  exact Nat.le_trans (by omega) (own_ge ho j ej.symm)
 obtain ⟨V, hV⟩ : ∃ V, V = w7.setCell ⟨B, 0, none⟩ (.slice (some ⟨g', 0, none⟩) (pre.length + 1) cap') := ⟨_, rfl⟩
 have hasz : w5.heap.size ≤ (w5.alloc (.cells #[.slice A2 x.1.length c2, .int .i64 x.2.1, .int .i64 x.2.2] 61)).heap.size := by simp
 have hblk : ∀ k, k ≠ B → some k ≠ (Value.slice A pre.length c).ownBlock → k < W.heap.size → V.heap[k]? = W.heap[k]? := fun k h1 h2 h3 => by
  rw [hV, Below.heap_setCell _ _ _ _ h1, hgrow.block k (by omega) h2, Below.heap_alloc _ _ _ (by omega), hs.b.block k h3]
 rw [← hV] at hv2 hr2 hk2 hb2' ⊢
 have hint : ∀ k, IsInts W k → V.heap[k]? = W.heap[k]? := fun k ⟨cs, fr, hk⟩ => hblk k (fun e => by
  subst e
  have hb' : W.heap[k]? = _ := hb
  rw [hk] at hb'
  injection hb' with hb'
  injection hb' with _ h3 _
  exact absurd h3 (by decide)) (fun e => by
  obtain ⟨cells, hc⟩ := own_typed ho k e.symm
  rw [hk] at hc
  injection hc with hc
  injection hc with _ h3 _
  exact absurd h3 (by decide)) (Array.getElem?_eq_some_iff.1 hk).1
 have hxe : (⟨A2, c2, x.1, x.2⟩ : Elt).At W w.heap.size := own_weaken hh.1 (by omega)
 have hge := own_ge ho
 refine ⟨⟨some ⟨g', 0, none⟩, cap', es ++ [⟨A2, c2, x.1, x.2⟩], by simpa using hv2, (hblk B2 (by omega) (fun e => by have := hge B2 e; omega) (by omega)).trans hb2, (hblk B3 (by omega) (fun e => by have := hge B3 e; omega) (by omega)).trans hb3, Nat.le_trans hNW hb2'.size, by simpa [Elt.enc3, Elt.v] using hr2, by simp [ht, Elt.row], ?_, hB0.trans hb2'⟩, hk2, fun k hk hkB => hblk k hkB (fun e => by have := hge k e; omega) (by omega), hb2'.size⟩
 intro e he
 rcases List.mem_append.1 he with he | he
 ·exact (ha e he).move hint
 ·rw [List.mem_singleton] at he; subst he; exact hxe.move hint
end Go.Proofs.YtcmllllbmgcnlaaGreat.Rl
end
section
namespace Go.Proofs.YtcmllllbmgcnlaaGreat.Rl
open Go.RowKit Go.Lib Go.Shelf Go.Proofs.YtcmllllbmgcnlaaGreat.G Go.Proofs.YtcmllllbmgcnlaaGreat.Tup Go.Proofs.YtcmllllbmgcnlaaGreatW.PrintWords Go.Proofs.YtcmllllbmgcnlaaGreatW.PrintLast Go.Proofs.YtcmllllbmgcnlaaGreatW.PrintMore
set_option linter.unusedVariables false
set_option linter.unusedSimpArgs false
attribute [local go_sem] Oper.semAt_some
theorem seq2R_later {F : Fence} {P : Program} {gf : Nat} {lb : Array Value} {xs : List Row} {w w2 : World} (h : Seq2R F P gf lb xs w) (hb : Below w.heap.size w w2) : Seq2R F P gf lb xs w2 := fun l J Jx W hW => h l J Jx W (below_then hb hb.size hW)
def RowsR (w : World) (ys : List Row) (e : Ending) (w' : World) : Prop := ∃ A c, e = .returned (.tuple #[.slice A ys.length c, .bool true]) ∧ ys.length ≤ c ∧ Kd.F KR w' (fun k => w.heap.size ≤ k) A ys.length ys ∧ Below w.heap.size w w'
set_option maxRecDepth 100000 in
set_option maxHeartbeats 8000000 in
theorem rows_in2 (n : Nat) (w : World) (gf : Nat) (lb : Array Value) (eg : ∀ args w, (callFunc gf args).run Tryz.prog w = .ok (.enter gf args) w) (ys : List Row) (hr : ∀ x ∈ ys, rightB x.2.1 = true ∧ rightB x.2.2 = true) (hx : ys.length ≤ 1024) (hseq : Seq2R Fence.wide Tryz.prog gf lb ys w) :
  CallsIn Fence.wide n Tryz.prog 21 #[.func (.func gf) #[] lb] w (RowsR w ys) := by
 have hdd : ∀ k : Nat, (Fence.wide.depth.isSome = true → 1 ≤ k) := fun k h => by cases h
 obtain ⟨i0, hi, hz0, hz1, hz2⟩ := info_parts infoW
 refine callsIn_of_wp_marks Tryz.func21 rfl trivial ?_ rfl
 simp only [Tryz.ntmps21, List.size_toArray, List.length_cons, List.length_nil, Nat.reduceAdd, Nat.reduceSub, Array.replicate_succ, Array.replicate_zero, List.push_toArray, List.append_toArray, List.nil_append, List.cons_append]
 gi_wp2
 obtain ⟨w3, hw3⟩ : ∃ w3, w3 = ((w.alloc (.cells #[.slice none 0 0] 46)).alloc (.cells #[.bool false] 4)).alloc (.cells #[.slice none 0 0] 46) := ⟨_, rfl⟩
 have b3 : Below w.heap.size w w3 := by rw [hw3]; exact below_alloc (below_alloc (below_alloc (Below.refl _ _) _) _) _
 have hsz3 : w3.heap.size = w.heap.size + 3 := by rw [hw3]; simp
 have x2 : Boxed w3 w.heap.size 46 (.slice none 0 0) := by rw [hw3]; exact ((Boxed.new w 46 (.slice none 0 0)).alloc _).alloc _
 have x3 : Boxed w3 (w.heap.size + 1) 4 (.bool false) := by
  have := (Boxed.new (w.alloc (.cells #[.slice none 0 0] 46)) 4 (.bool false)).alloc (.cells #[.slice none 0 0] 46)
  rw [World.size_alloc, ← hw3] at this
  exact this
 have x1 : Boxed w3 (w.heap.size + 2) 46 (.slice none 0 0) := by
  have := Boxed.new ((w.alloc (.cells #[.slice none 0 0] 46)).alloc (.cells #[.bool false] 4)) 46 (.slice none 0 0)
  rw [World.size_alloc, World.size_alloc, ← hw3] at this
  exact this
 rw [← hw3]
 refine range2_outer rfl rfl (gf := gf) (lb := lb) rfl trivial eg (seq2R_later hseq b3) rfl (RowsI w (w.heap.size + 2) w.heap.size (w.heap.size + 1)) (fun _ _ _ _ => False) (fun N _ => rowsI_own w _ _ _ N _ (by omega)) (fun _ _ _ _ _ _ _ hs _ _ => hs)
  (fun W' hW' _ => ⟨none, 0, [], (hW'.block _ (by omega)).trans x1, (hW'.block _ (by omega)).trans x2, (hW'.block _ (by omega)).trans x3, Nat.le_refl _, World.ownsRow_nil _ _ _ _, rfl, by simp, below_then b3 b3.size hW'⟩)
  (fun x A c => { tmps := #[.func (.func gf) #[] lb, undef, .pointer (some ⟨w.heap.size, 0, none⟩), .pointer (some ⟨w.heap.size + 1, 0, none⟩), .pointer (some ⟨w.heap.size + 2, 0, none⟩), .slice A x.1.length c, .complex .f64 (nf x.2.1) (nf x.2.2), undef, undef, undef, .func (.func gf) #[] lb, .slice A x.1.length c, .complex .f64 (nf x.2.1) (nf x.2.2), undef, undef, undef, undef, undef, undef, undef, undef, undef, undef, undef, undef, undef, undef, undef, undef, undef, undef, undef, undef, undef, undef, undef, undef], defers := [] }) ?assign ?body ?done ?stop
 case assign =>
  intro l x A c W K hK
  simp only [noteV]
  gi_wp2
  exact hK
 case body =>
  rintro N l pre x A2 c2 W1 hNw hl hrec hpre hgv ⟨A, c, es, hb, hb2, hb3, hNW, ho, ht, ha, hB⟩
  have hxr := hr x (hpre.subset (by simp))
  have hpl : pre.length + 1 ≤ 1024 := by have := hpre.length_le; simp at this; omega
  obtain ⟨pl, hplv⟩ : ∃ pl, pl = pre.length := ⟨_, rfl⟩
  have HMR := Aside0.mk (fun (w7 : World) (g' cap' : Nat) ho7 hg7 => rowsI_more (w5 := W1) (w7 := w7) (g' := g') (cap' := cap') (x := x) (A2 := A2) (c2 := c2) (a := w3.heap.size + 2) (Nat.le_refl _) (by omega) (by omega) (by omega) hNw hNW hb hb2 hb3 ho ht ha hB hgv (Since.refl _) ho7 hg7)
  rw [← hplv] at hb ho HMR hpl
  have HH := Aside0.mk (fun w => by
   have h := rheight_calls w (nf x.2.1) (nf x.2.2)
   rw [heightF_nf hxr.1 hxr.2] at h
   exact h)
  have hng : ¬ ((pl : Int) > 2048) := by omega
  have hc := hb.cell
  have HO := Aside0.mk ho
  have HBX := Aside0.mk hb
  have HNR := Aside0.mk (hb.not_row (by decide) ho)
  have HNW : Aside0 (N ≤ W1.heap.size ∧ w3.heap.size + 2 ≤ N) := ⟨hNW, hNw⟩
  have HPL2 : Aside0 (pl + 1 ≤ 1024) := ⟨hpl⟩
  obtain ⟨xt, n1, n2⟩ := x
  dsimp only at HMR HH ⊢
  clear hb hb2 hb3 hNW ho ht ha hB hgv hxr hpl hplv hrec hpre hNw x1 x2 x3
  gi_wp2_with (first
   | ((try refine ⟨trivial, ?_⟩); (try refine ⟨hdd _, ?_⟩); gi_at_call 14; refine (callsIn_wide.2 (HH.out _)).mono ?_; rintro e w4 ⟨rfl, rfl⟩)
   | (gi_at_builtin; refine wpListIn_append_own _ rfl _ _ 46 rfl N 61 i0 (.agg #[.slice none 0 0, .int .i64 0, .int .i64 0]) 3 40 Tryz.underlying46 hi hz0 hz1 hz2 rfl (by decide) _ _ _ rfl (HO.out.alloc _) ⟨W1.heap.size, 0, none⟩ 1 1 [.slice A2 xt.length c2, .int .i64 n1, .int .i64 n2] rfl rfl (fun j u hj => by
     rw [Addr.add_lit, Nat.zero_add, Tup.cell_of_heap (heap_alloc_new W1 _)]
     rw [← hj]; simp) (by simp [Value.oneCell']) (by have := HPL2.out; unfold maxLen; omega) (by have := HPL2.out; omega) (by have := HNW.out.1; simp; omega) ?_; intro v' w7 hown' hgrow _; obtain ⟨g', cap', rfl⟩ := ownsRow_succ hown'; have hv1 := (HBX.out.alloc (.cells #[.slice A2 xt.length c2, .int .i64 n1, .int .i64 n2] 61)).kept hgrow HNR.out; have hc1 := hv1.cell; have hf1 := hv1.frozen; have HW := Aside0.mk hown'; have HG := Aside0.mk hgrow; clear hown' hgrow hv1))
  obtain ⟨h1, h2, h3, h4⟩ := HMR.out w7 g' cap' HW.out HG.out
  have hn2 := HNW.out.2
  exact ⟨h2.from _, ⟨h4, fun k hk _ => h3 k hk.2.1 (by have := hk.1; omega)⟩, h1⟩
 case done =>
  rintro N D W hNw hD ⟨A, c, es, hb, hb2, hb3, hNW, ho, ht, ha, hB⟩ hK
  obtain ⟨yn, hyn⟩ : ∃ yn, yn = ys.length := ⟨_, rfl⟩
  rw [← hyn] at hb ho
  have hc := hb.cell
  have g2 := hb2.cell
  have f2 := hb2.frozen
  have g3 := hb3.cell
  have f3 := hb3.frozen
  obtain ⟨hyc, hF⟩ := rows3 ho (by rw [hyn, ← ht, List.length_map]) ha
  rw [ht] at hF
  have hge := own_ge ho
  obtain ⟨X, hX⟩ : ∃ X, X = ((W.setCell ⟨w.heap.size, 0, none⟩ (.slice A yn c)).setCell ⟨w.heap.size + 1, 0, none⟩ (.bool true)) := ⟨_, rfl⟩
  have hXk : ∀ k, k ≠ w.heap.size → k ≠ w.heap.size + 1 → X.heap[k]? = W.heap[k]? := fun k h1 h2 => by rw [hX, Below.heap_setCell _ _ _ _ h2, Below.heap_setCell _ _ _ _ h1]
  have hDn : D ≠ w.heap.size ∧ D ≠ w.heap.size + 1 := by omega
  have hKX := (hXk D hDn.1 hDn.2).trans hK
  have HKX := Aside0.mk hKX
  have hXs : X.heap.size = W.heap.size := by rw [hX]; simp
  have hBsz := hB.size
  have HFX := Aside0.mk (show Kd.F KR (X.putObj D (.deferred none)) (fun k => w.heap.size ≤ k) A yn ys from Kd.F_mono (Kd.F_step hF (W1 := X.putObj D (.deferred none)) (fun k hk hlt => by
   have hkD : k ≠ D ∧ k ≠ w.heap.size ∧ k ≠ w.heap.size + 1 := by
    rcases hk with ⟨_, _, cs, fr, hi⟩ | hk
    ·refine ⟨fun e => ?_, fun e => ?_, fun e => ?_⟩
     ·rw [e, hK] at hi; cases hi
     ·have hb2' : W.heap[w.heap.size]? = _ := hb2
      rw [← e, hi] at hb2'
      injection hb2' with hb2'
      injection hb2' with _ h3 _
      exact absurd h3 (by decide)
     ·have hb3' : W.heap[w.heap.size + 1]? = _ := hb3
      rw [← e, hi] at hb3'
      injection hb3' with hb3'
      injection hb3' with _ h3 _
      exact absurd h3 (by decide)
    ·obtain ⟨cells, hc⟩ := own_typed ho k hk.symm
     have := hge k hk
     exact ⟨(fun e => by (rw [e, hK] at hc; cases hc)), by omega, by omega⟩
   rw [World.putObj_heap_other hkD.1]
   exact hXk k hkD.2.1 hkD.2.2)) fun k hk => hk.elim (fun h => h.1) fun h => by have := hge k h; omega)
  have HBX := Aside0.mk (show Below w.heap.size w (X.putObj D (.deferred none)) from by
   have hb1 : Below w.heap.size w X := by
    rw [hX]; exact (hB.setCell (p := ⟨w.heap.size, 0, none⟩) (Nat.le_refl _) _).setCell (p := ⟨w.heap.size + 1, 0, none⟩) (by show w.heap.size ≤ w.heap.size + 1; omega) _
   exact hb1.grown (grownBy_putObj' X D (.deferred none)) hb1.size (fun k e => by cases e; omega))
  have r2 : (X.putObj D (.deferred none)).cell? ⟨w.heap.size, 0, none⟩ = some (.slice A yn c) := by
   have e1 : X.heap[w.heap.size]? = (W.setCell ⟨w.heap.size, 0, none⟩ (.slice A yn c)).heap[w.heap.size]? := by rw [hX, Below.heap_setCell _ _ _ _ (by show w.heap.size ≠ w.heap.size + 1; omega)]
   exact (Tup.cell_of_heap ((World.putObj_heap_other (by omega)).trans (e1.trans (hb2.set (.slice A yn c)))) 0).trans rfl
  have r3 : (X.putObj D (.deferred none)).cell? ⟨w.heap.size + 1, 0, none⟩ = some (.bool true) := by
   have e1 : Boxed (W.setCell ⟨w.heap.size, 0, none⟩ (.slice A yn c)) (w.heap.size + 1) 4 (.bool false) := (Below.heap_setCell _ _ _ _ (by show w.heap.size + 1 ≠ w.heap.size; omega)).trans hb3
   have e2 := e1.set (.bool true)
   rw [← hX] at e2
   exact (Tup.cell_of_heap ((World.putObj_heap_other (by omega)).trans e2) 0).trans rfl
  have HYN := Aside0.mk hyn
  have HYC := Aside0.mk hyc
  rw [hX] at HKX r2 r3 HFX HBX
  clear hb hb2 hb3 hNW ho ht ha hB hF hge hX hXk hKX hXs hyn hyc hK x1 x2 x3
  have hc' : W.cell? ⟨w.heap.size + 2, 0, none⟩ = some (.slice A ys.length c) := by rw [← HYN.out]; exact hc
  gi_wp2
  refine ⟨by simp, .inl ⟨_, _, rfl, run_takeDeferred HKX.out, ?_⟩⟩
  have r2' := r2
  have r3' := r3
  rw [HYN.out] at r2' r3'
  refine ⟨.tuple #[.slice A ys.length c, .bool true], by simp [results, Tryz.results21, go_sem, r2', r3', HYN.out], A, c, rfl, ?_, ?_, HBX.out⟩
  ·rw [← HYN.out]; exact HYC.out
  ·rw [← HYN.out]; exact HFX.out
 case stop =>
  rintro N D c pre W _ _ _ h _
  exact h.elim
theorem rows_calls (w : World) (gf : Nat) (lb : Array Value) (eg : ∀ args w, (callFunc gf args).run Tryz.prog w = .ok (.enter gf args) w) (ys : List Row) (hr : ∀ x ∈ ys, rightB x.2.1 = true ∧ rightB x.2.2 = true) (hx : ys.length ≤ 1024) (hseq : Seq2R Fence.wide Tryz.prog gf lb ys w) :
  Calls Tryz.prog 21 #[.func (.func gf) #[] lb] w (RowsR w ys) := (callsIn_wide (n := 3)).1 (rows_in2 3 w gf lb eg ys hr hx hseq)
end Go.Proofs.YtcmllllbmgcnlaaGreat.Rl
end
section
namespace Go.Proofs.YtcmllllbmgcnlaaGreat.Rl
open Go.RowKit Go.Lib Go.Shelf Go.Proofs.YtcmllllbmgcnlaaGreat.G Go.Proofs.YtcmllllbmgcnlaaGreat.Tup Go.Proofs.YtcmllllbmgcnlaaGreatW.PrintWords Go.Proofs.YtcmllllbmgcnlaaGreatW.PrintLast Go.Proofs.YtcmllllbmgcnlaaGreatW.PrintMore
set_option linter.unusedVariables false
set_option linter.unusedSimpArgs false
theorem add_field (ad : Addr) (m j : Nat) (hj : 0 < j) : ad.add (m + j) = ⟨(ad.add m).block, (ad.add m).off + j, none⟩ := by
 unfold Addr.add
 rw [if_neg (by omega)]
 by_cases h : m = 0
 ·subst h; simp
 ·simp [h, Nat.add_assoc]
theorem kr_at {W : World} {A : Option Addr} {n : Nat} {xs : List Row} (h : Kd.C KR W A n xs) (i : Nat) (hi : i < xs.length) :
  ∃ ad Ai ci, A = some ad ∧ W.cell? (ad.add (i * 3)) = some (.slice Ai (xs[i]).1.length ci) ∧ W.cell? ⟨(ad.add (i * 3)).block, (ad.add (i * 3)).off + 1, none⟩ = some (.int .i64 (xs[i]).2.1) ∧ W.cell? ⟨(ad.add (i * 3)).block, (ad.add (i * 3)).off + 2, none⟩ = some (.int .i64 (xs[i]).2.2) ∧ Sl W Ai ci (xs[i]).1 := by
 have hn : xs.length = n := h.1
 obtain ⟨ad, c, e, hl, hK, hc⟩ := Kd.C_get h (([], (0, 0)) : Row) (i : Int) (by omega) (by omega)
 have eg : xs.getD ((i : Int)).toNat ([], (0, 0)) = xs[i] := by simp [hi]
 rw [eg] at hK
 obtain ⟨c0, c1, rfl, ⟨Ai, ci, rfl, hle, hC⟩, d0, d1, rfl, h0, h1⟩ := hK
 have h0' : d0 = [Value.int .i64 (xs[i]).2.1] := h0
 have h1' : d1 = [Value.int .i64 (xs[i]).2.2] := h1
 subst h0' h1'
 have ez : ((i : Int)).toNat * Kd.sz KR = i * 3 := rfl
 rw [ez] at hc
 exact ⟨ad, Ai, ci, e, hc 0 _ rfl, by rw [← add_field ad (i * 3) 1 (by decide)]; exact hc 1 _ rfl, by rw [← add_field ad (i * 3) 2 (by decide)]; exact hc 2 _ rfl, hC, hle⟩
set_option maxHeartbeats 8000000 in
set_option maxRecDepth 100000 in
theorem same7_eq (W : World) (A : Option Addr) (c n : Nat) (xs : List Row) (B : Option Addr) (d : Nat) (ys : List Row) (h1 : Kd.C KR W A n xs) (h2 : Kd.C KR W B n ys) (hn : n ≤ 1000000) (hx : ∀ x ∈ xs, x.1.length ≤ 1000000) (r : Bool) (hr : r = decide (xs = ys)) :
  Calls Tryz.prog 23 #[.slice A n c, .slice B n d] W fun e w' => e = .returned (.bool r) ∧ Below W.heap.size W w' := by
 have H1 := Aside0.mk h1
 have H2 := Aside0.mk h2
 have L1 : Aside0 (xs.length = n) := ⟨h1.1⟩
 have L2 : Aside0 (ys.length = n) := ⟨h2.1⟩
 have HX := Aside0.mk hx
 have HR := Aside0.mk hr
 clear h1 h2 hx hr
 go_enter Tryz.func23, Tryz.ntmps23
 go_wp2
 go_loopg [13] n (fun gk v13 wr => ∃ k : Nat, v13 = .int .i64 (k : Int) ∧ Aside0 (k + gk = n) ∧ Aside0 (Since W wr) ∧ Aside0 (xs.take k = ys.take k))
 case atStart => exact ⟨0, rfl, ⟨by omega⟩, ⟨Since.refl W⟩, ⟨rfl⟩⟩
 case round =>
  obtain ⟨k, rfl, HK, HS, HE⟩ := hrel
  by_cases hk : k < n
  ·have hkd : decide (k < n) = true := decide_eq_true hk
   have hki : (k : Int) < (n : Int) := by omega
   have hk0 : (0 : Int) ≤ (k : Int) := by omega
   have hkx : k < xs.length := by rw [L1.out]; exact hk
   have hky : k < ys.length := by rw [L2.out]; exact hk
   obtain ⟨ad, Ai, ci, rfl, a0, a1, a2, sA⟩ := kr_at (Kd.C_below H1.out HS.out.b) k hkx
   obtain ⟨bd, Bi, di, rfl, b0, b1, b2, sB⟩ := kr_at (Kd.C_below H2.out HS.out.b) k hky
   have hxl := HX.out _ (List.getElem_mem hkx)
   have hT1 : xs.take (k + 1) = xs.take k ++ [xs[k]] := by rw [List.take_succ_eq_append_getElem hkx]
   have hT2 : ys.take (k + 1) = ys.take k ++ [ys[k]] := by rw [List.take_succ_eq_append_getElem hky]
   have hne : xs[k] ≠ ys[k] → xs ≠ ys := fun h e => h (by subst e; rfl)
   obtain ⟨⟨t, h1, k1⟩, hx⟩ : ∃ x, x = xs[k] := ⟨_, rfl⟩
   obtain ⟨⟨s, h2, k2⟩, hy⟩ : ∃ y, y = ys[k] := ⟨_, rfl⟩
   rw [← hx] at a0 a1 a2 sA hxl hT1 hne
   rw [← hy] at b0 b1 b2 sB hT2 hne
   dsimp only at a0 a1 a2 sA hxl b0 b1 b2 sB
   have HC : Aside0 (∀ w, Since wr w → Calls Tryz.prog 53 #[.slice Ai t.length ci, .slice Bi s.length di] w fun e w' => e = .returned (.bool (decide (t = s))) ∧ Drawn0 w w') := ⟨fun w hw => same_calls Ai ci t Bi di s w (hw.sl sA) (hw.sl sB) (by omega)⟩
   have HN := Aside0.mk (And.intro hT1 (And.intro hT2 hne))
   clear sA sB hx hy hxl hT1 hT2 hne
   by_cases hts : t = s
   ·rw [decide_eq_true hts] at HC
    by_cases hh : h1 = h2
    ·subst hh
     by_cases hkk : k1 = k2
     ·subst hkk
      have HT := Aside0.mk hts
      clear hts
      go_wp2_with fail
      go_quiet (first | (go_at_call 53; refine (HC.out _ (by repeat (first | exact Since.refl _ | refine Since.drewN ?_ _))).mono ?_; rintro e w' ⟨rfl, ⟨nd, rfl⟩⟩; first | exact ⟨rfl, _, World.drewN_drewN _ _ _⟩ | exact ⟨rfl, _, Eq.trans (World.drewN_drewN _ _ _) (congrArg (World.drewN _) (Nat.add_assoc _ _ _))⟩))
      go_wp2
      obtain ⟨g2, hg2⟩ : ∃ g2, g2 = gk - 1 := ⟨_, rfl⟩
      go_roundg g2
      case measure => have := HK.out; omega
      case rel => exact ⟨k + 1, by go_num, ⟨by have := HK.out; omega⟩, ⟨HS.out.drewN _⟩, ⟨by rw [HN.out.1, HN.out.2.1, HE.out, HT.out]⟩⟩
     ·have hb : (k1 == k2) = false := beq_eq_false_iff_ne.2 hkk
      have hb2 : (k1 != k2) = true := bne_iff_ne.2 hkk
      have HF : Aside0 (r = false) := ⟨by rw [HR.out]; exact decide_eq_false (HN.out.2.2 fun e => hkk (by injection e with _ e; injection e))⟩
      clear hts hkk
      go_wp2_with fail
      go_quiet (first | (go_at_call 53; refine (HC.out _ (by repeat (first | exact Since.refl _ | refine Since.drewN ?_ _))).mono ?_; rintro e w' ⟨rfl, ⟨nd, rfl⟩⟩; first | exact ⟨rfl, _, World.drewN_drewN _ _ _⟩ | exact ⟨rfl, _, Eq.trans (World.drewN_drewN _ _ _) (congrArg (World.drewN _) (Nat.add_assoc _ _ _))⟩))
      go_wp2
      go_ret
      exact ⟨by rw [HF.out]; rfl, (HS.out.drewN _).b⟩
    ·have hb : (h1 == h2) = false := beq_eq_false_iff_ne.2 hh
     have hb2 : (h1 != h2) = true := bne_iff_ne.2 hh
     have HF : Aside0 (r = false) := ⟨by rw [HR.out]; exact decide_eq_false (HN.out.2.2 fun e => hh (by injection e with _ e; injection e))⟩
     clear hts hh
     go_wp2_with fail
     go_quiet (first | (go_at_call 53; refine (HC.out _ (by repeat (first | exact Since.refl _ | refine Since.drewN ?_ _))).mono ?_; rintro e w' ⟨rfl, ⟨nd, rfl⟩⟩; first | exact ⟨rfl, _, World.drewN_drewN _ _ _⟩ | exact ⟨rfl, _, Eq.trans (World.drewN_drewN _ _ _) (congrArg (World.drewN _) (Nat.add_assoc _ _ _))⟩))
     go_wp2
     go_ret
     exact ⟨by rw [HF.out]; rfl, (HS.out.drewN _).b⟩
   ·rw [decide_eq_false hts] at HC
    have HF : Aside0 (r = false) := ⟨by rw [HR.out]; exact decide_eq_false (HN.out.2.2 fun e => hts (by injection e))⟩
    clear hts
    go_wp2_with fail
    go_quiet (first | (go_at_call 53; refine (HC.out _ (by repeat (first | exact Since.refl _ | refine Since.drewN ?_ _))).mono ?_; rintro e w' ⟨rfl, ⟨nd, rfl⟩⟩; first | exact ⟨rfl, _, World.drewN_drewN _ _ _⟩ | exact ⟨rfl, _, Eq.trans (World.drewN_drewN _ _ _) (congrArg (World.drewN _) (Nat.add_assoc _ _ _))⟩))
    go_wp2
    go_ret
    exact ⟨by rw [HF.out]; rfl, (HS.out.drewN _).b⟩
  ·have hkd : decide (k < n) = false := decide_eq_false hk
   have hki : ¬ (k : Int) < (n : Int) := by omega
   have HF : Aside0 (r = true) := ⟨by
    rw [HR.out]
    have hkn : n ≤ k := by omega
    have := HE.out
    rw [List.take_of_length_le (by rw [L1.out]; exact hkn), List.take_of_length_le (by rw [L2.out]; exact hkn)] at this
    exact decide_eq_true this⟩
   go_wp2
   go_ret
   exact ⟨by rw [HF.out]; rfl, HS.out.b⟩
set_option maxHeartbeats 1000000 in
set_option maxRecDepth 100000 in
theorem same7_ne (W : World) (A : Option Addr) (c n : Nat) (B : Option Addr) (d m : Nat) (h : n ≠ m) :
  Calls Tryz.prog 23 #[.slice A n c, .slice B m d] W fun e w' => e = .returned (.bool false) ∧ Below W.heap.size W w' := by
 have hb : ((n : Int) != (m : Int)) = true := bne_iff_ne.2 (by omega)
 clear h
 go_enter Tryz.func23, Tryz.ntmps23
 go_wp2
 go_ret
 exact ⟨rfl, Below.refl _ _⟩
theorem same7_calls (W : World) (A : Option Addr) (c : Nat) (xs : List Row) (B : Option Addr) (d : Nat) (ys : List Row) (h1 : Kd.C KR W A xs.length xs) (h2 : Kd.C KR W B ys.length ys) (hn : xs.length ≤ 1000000) (hx : ∀ x ∈ xs, x.1.length ≤ 1000000) :
  Calls Tryz.prog 23 #[.slice A xs.length c, .slice B ys.length d] W fun e w' => e = .returned (.bool (decide (xs = ys))) ∧ Below W.heap.size W w' := by
 by_cases h : xs.length = ys.length
 ·have h2' := h2
  rw [← h] at h2' ⊢
  exact same7_eq W A c xs.length xs B d ys h1 h2' hn hx _ rfl
 ·rw [decide_eq_false (fun e => h (by rw [e]))]
  exact same7_ne W A c xs.length B d ys.length h
set_option maxHeartbeats 1000000 in
set_option maxRecDepth 100000 in
theorem walked_calls (w : World) (gf : Nat) (lb : Array Value) (eg : ∀ args w, (callFunc gf args).run Tryz.prog w = .ok (.enter gf args) w) (ys : List Row) (hr : ∀ x ∈ ys, rightB x.2.1 = true ∧ rightB x.2.2 = true) (hw : ∀ x ∈ ys, x.1.length ≤ 1000000) (hx : ys.length ≤ 1024) (hseq : Seq2R Fence.wide Tryz.prog gf lb ys w) (B : Option Addr) (d : Nat) (zs : List Row) (h2 : Kd.C KR w B zs.length zs) :
  Calls Tryz.prog 28 #[.func (.func gf) #[] lb, .slice B zs.length d] w fun e w' => e = .returned (.bool (decide (ys = zs))) ∧ Below w.heap.size w w' := by
 have HR := Aside0.mk (rows_calls w gf lb eg ys hr hx hseq)
 have HS := Aside0.mk (fun (w2 : World) (A : Option Addr) (c : Nat) (hF : Kd.C KR w2 A ys.length ys) (hb : Below w.heap.size w w2) => same7_calls w2 A c ys B d zs hF (Kd.C_below h2 hb) (by omega) hw)
 obtain ⟨r, hrr⟩ : ∃ r, r = decide (ys = zs) := ⟨_, rfl⟩
 rw [← hrr] at HS ⊢
 clear hseq hr hw h2 hrr
 go_enter Tryz.func28, Tryz.ntmps28
 go_wp2_with (first
  | (go_at_call 21; refine HR.out.mono ?_; rintro e w2 ⟨A, c, rfl, hc, hF, hb⟩; have HB2 := Aside0.mk hb; have HS2 := Aside0.mk (HS.out w2 A c (Kd.F_now hF) hb); clear hc hF hb)
  | (go_at_call 23; refine HS2.out.mono ?_; rintro e w3 ⟨rfl, hb3⟩; have HB3 := Aside0.mk hb3; clear hb3))
 go_ret
 exact ⟨by cases r <;> rfl, below_then HB2.out HB2.out.size HB3.out⟩
theorem cmpL_take {o : Tp} {x y : Tp} (m : Nat) (h : cmpL o x y ≤ 0) : cmpL (o.take m) x y ≤ 0 := by
 induction o generalizing m with
 | nil => simpa using h
 | cons c o ih =>
  cases m with
  | zero => simp [cmpL]
  | succ m =>
   simp only [List.take_succ_cons, cmpL] at h ⊢
   by_cases p1 : rd x c < rd y c
   ·rw [if_pos p1]; decide
   ·rw [if_neg p1] at h ⊢
    by_cases p2 : rd x c > rd y c
    ·rw [if_pos p2] at h; omega
    ·rw [if_neg p2] at h ⊢; exact ih m h
theorem headL_iff (o a b : Tp) : ∀ m : Nat, headL m o a b = true ↔ ∀ c ∈ o.take m, rd a c = rd b c := by
 induction o with
 | nil => intro m; cases m <;> simp [headL]
 | cons c o ih =>
  intro m
  cases m with
  | zero => simp [headL]
  | succ m => simp [headL, ih m]
theorem headL_cmp (o a b : Tp) (m : Nat) : headL m o a b = true ↔ cmpL (o.take m) a b = 0 := (headL_iff o a b m).trans (cmpL_zero _ a b).symm
theorem take_filter {α : Type} {R : α → α → Prop} {p h : α → Bool} : ∀ {L : List α}, L.Pairwise R → (∀ x ∈ L, h x = true → p x = false) → (∀ x ∈ L, ∀ y ∈ L, R x y → p x = false → h x = false → h y = false) → (L.filter fun x => !p x).takeWhile h = L.filter h
 | [], _, _, _ => rfl
 | x :: L, hR, h1, h2 => by
  obtain ⟨hx, hL⟩ := List.pairwise_cons.1 hR
  have ih := take_filter (p := p) (h := h) hL (fun y hy => h1 y (List.mem_cons_of_mem _ hy)) (fun y hy z hz => h2 y (List.mem_cons_of_mem _ hy) z (List.mem_cons_of_mem _ hz))
  cases hp : p x with
  | true =>
   have hh : h x = false := by
    cases hc : h x with
    | false => rfl
    | true => rw [h1 x (by simp) hc] at hp; cases hp
   rw [List.filter_cons_of_neg (by simp [hp]), List.filter_cons_of_neg (by simp [hh]), ih]
  | false =>
   rw [List.filter_cons_of_pos (by simp [hp])]
   cases hc : h x with
   | true => rw [List.takeWhile_cons_of_pos hc, List.filter_cons_of_pos hc, ih]
   | false =>
    rw [List.takeWhile_cons_of_neg (by simp [hc]), List.filter_cons_of_neg (by simp [hc])]
    symm
    rw [List.filter_eq_nil_iff]
    intro y hy
    rw [h2 x (by simp) y (List.mem_cons_of_mem _ hy) (hx y hy) hp hc]
    decide
theorem range_ref {o key : Tp} {L : List Tp} (k : Int) (hr : Rt o) (hf : ∀ a ∈ L, Fit o a) (hu : Up o L) : rangeL o k key L = L.filter fun x => headS o k x key := by
 unfold rangeL
 by_cases hk : key.length = o.length
 ·rw [if_pos hk]
  have hfk : Fit o key := ⟨hk, hr⟩
  have hh : ∀ x ∈ L, (headS o k x key = true ↔ cmpL (o.take k.toNat) x key = 0) := fun x hx => by
   unfold headS
   rw [decide_eq_true (show Fit o x ∧ Fit o key from ⟨hf x hx, hfk⟩), Bool.true_and, headL_cmp]
  refine take_filter hu (fun x hx h => ?_) (fun x hx y hy hxy hp hn => ?_)
  ·have := (hh x hx).1 h
   unfold pR
   rw [this]; rfl
  ·cases hc : headS o k y key with
   | false => rfl
   | true =>
    have h1 := (hh y hy).1 hc
    have h2 : cmpL (o.take k.toNat) x y ≤ 0 := cmpL_take k.toNat (by have : cmpL o x y < 0 := hxy; omega)
    have h3 := cmpL_trans (o.take k.toNat) x y key h2 (by omega)
    have h4 : ¬ cmpL (o.take k.toNat) x key < 0 := by unfold pR at hp; simpa using hp
    have h5 : headS o k x key = true := (hh x hx).2 (by omega)
    rw [h5] at hn; cases hn
 ·rw [if_neg hk]
  symm
  rw [List.filter_eq_nil_iff]
  intro x _
  unfold headS
  rw [decide_eq_false (fun h : Fit o x ∧ Fit o key => hk h.2.1)]
  simp
def agreeB (wd : Nat) (cols : Int) (t x : Tp) : Bool := (List.range wd).all fun (c : Nat) => !cols.toNat.testBit c || decide (rd x (c : Int) = rd t (c : Int))
def findL (wd : Nat) (R : List Row) (cols : Int) (t : Tp) : List Row := if t.length = wd ∧ 0 ≤ cols ∧ cols < 2 ^ wd then R.filter fun x => agreeB wd cols t x.1 else []
theorem cover_head {o : Tp} {cols k : Int} (h : coverS o cols = (k, true)) {x t : Tp} (hx : x.length = o.length) (ht : t.length = o.length) : headS o k x t = agreeB o.length cols t x := by
 unfold coverS at h
 split at h
 ·rename_i hc
  obtain ⟨hr, h0, h1⟩ := hc
  split at h
  ·rename_i ho
   injection h with hk _
   have hf : Fit o x ∧ Fit o t := ⟨⟨hx, hr⟩, ⟨ht, hr⟩⟩
   unfold headS
   rw [decide_eq_true hf, Bool.true_and, Bool.eq_iff_iff, headL_iff, ← hk, Int.toNat_natCast]
   have hbit : ∀ j : Nat, cols.toNat.testBit j = true ↔ (j : Int) ∈ o.take (popN cols.toNat) := fun j => by
    have := Go.Proofs.YtcmllllbmgcnlaaGreat.Ch.orL_bits (o.take (popN cols.toNat)) 0 j (fun c hc => (hr.2.1 c (List.mem_of_mem_take hc)).1)
    rw [ho] at this
    simpa using this
   unfold agreeB
   rw [List.all_eq_true]
   constructor
   ·intro h c hc
    cases hb : cols.toNat.testBit c with
    | false => rfl
    | true => simp [h _ ((hbit c).1 hb)]
   ·intro h c hc
    have hcr := hr.2.1 c (List.mem_of_mem_take hc)
    have hcn : ((c.toNat : Nat) : Int) = c := Int.toNat_of_nonneg hcr.1
    have := h c.toNat (List.mem_range.2 (by omega))
    rw [(hbit c.toNat).2 (by rw [hcn]; exact hc), hcn] at this
    simpa using this
  ·cases h
 ·cases h
theorem notedL_find {wd : Nat} {R : List Row} (hR : RowsOk wd R) {o : Tp} (ho : o.length = wd) (hr : Rt o) {L : List Tp} (hf : ∀ a ∈ L, Fit o a) (hu : Up o L) (hL : ∀ t, t ∈ L ↔ t ∈ keys R) {cols k : Int} (hc : coverS o cols = (k, true)) {t : Tp} (ht : t.length = wd) (h0 : 0 ≤ cols) (h1 : cols < 2 ^ wd) : notedL R (rangeL o k t L) = findL wd R cols t := by
 unfold findL notedL
 rw [if_pos ⟨ht, h0, h1⟩]
 refine List.filter_congr fun x hx => ?_
 rw [range_ref k hr hf hu, ← ho, ← cover_head hc (by rw [ho]; exact hR.wd x hx) (by rw [ho]; exact ht)]
 rw [Bool.eq_iff_iff, decide_eq_true_iff, List.mem_filter]
 exact ⟨fun h => h.2, fun h => ⟨(hL x.1).2 (mem_keys hx), h⟩⟩
theorem findL_sub {wd : Nat} {R : List Row} {cols : Int} {t : Tp} {x : Row} (h : x ∈ findL wd R cols t) : x ∈ R := by
 unfold findL at h
 split at h
 ·exact (List.mem_filter.1 h).1
 ·simp at h
theorem findL_len (wd : Nat) (R : List Row) (cols : Int) (t : Tp) : (findL wd R cols t).length ≤ R.length := by
 unfold findL
 split
 ·exact List.length_filter_le _ _
 ·simp
theorem cloneIZ_calls (W : World) (A : Option Addr) (c : Nat) (t : Tp) (h : Sl W A c t) (hn : t.length * 8 ≤ 140737488351232) :
  Calls Tryz.prog 44 #[.slice A t.length c] W fun e w' => ∃ A' c', e = .returned (.slice A' t.length c') ∧ t.length ≤ c' ∧ Kd.F (Kd.int .i64) w' (fun k => W.heap.size ≤ k) A' t.length t ∧ Below W.heap.size W w' := by
 obtain ⟨us, hE, hl, hA, hc⟩ := rows_out rfl (Kd.C_F (Kd.heap_int .i64) h.C)
 refine (clI_calls W A t.length c us hl hA hc (els_one hE) (by omega) (by unfold maxLen; omega)).mono ?_
 rintro e w' ⟨v, rfl, ho, hb⟩
 obtain ⟨A', c', rfl, hle, hF⟩ := rows_in (d := Kd.int .i64) (ok := fun _ => False) rfl ho (hE.imp fun x u hx => fun W' _ => (show (Kd.int .i64).K W x [u] from Kd.FK_now hx)) rfl
 exact ⟨A', c', rfl, hle, Kd.F_mono hF (fun k hk => hk.elim False.elim (own_ge ho k)), hb⟩
def FindC (W : World) (v : Value) (k : Int) (t : Tp) (e : Ending) (w' : World) : Prop :=
 ∃ Bs Bk Bi Ak ck, e = .returned (.func (.func 45) #[] #[.pointer (some ⟨Bs, 0, none⟩), .pointer (some ⟨Bk, 0, none⟩), .pointer (some ⟨Bi, 0, none⟩)]) ∧ w'.cell? ⟨Bs, 0, none⟩ = some v ∧ w'.cell? ⟨Bi, 0, none⟩ = some (.int .i64 k) ∧ w'.cell? ⟨Bk, 0, none⟩ = some (.slice Ak t.length ck) ∧ t.length ≤ ck ∧ Kd.F (Kd.int .i64) w' (fun j => W.heap.size ≤ j) Ak t.length t ∧ Below W.heap.size W w'
set_option maxHeartbeats 2000000 in
set_option maxRecDepth 100000 in
theorem rfind_calls (W : World) (p : Option Addr) (k : Int) (At : Option Addr) (ct : Nat) (t : Tp) (st : Sl W At ct t) (hn : t.length * 8 ≤ 140737488351232) :
  Calls Tryz.prog 22 #[.pointer p, .int .i64 k, .slice At t.length ct] W (FindC W (.pointer p) k t) := by
 have HST := Aside0.mk st
 have HN := Aside0.mk hn
 clear st hn
 have hb2 : Below W.heap.size W ((W.alloc (.cells #[.pointer p] 24)).alloc (.cells #[.int .i64 k] 3)) := below_alloc (below_alloc (Below.refl _ _) _) _
 have HB2 := Aside0.mk hb2
 have HS2 := Aside0.mk (Sl.below HST.out hb2)
 clear hb2
 go_enter Tryz.func22, Tryz.ntmps22
 go_wp2_with (go_at_call 44; ((with_reducible refine (cloneIZ_calls _ At ct t HS2.out HN.out).mono ?_)); rintro e w2 ⟨A2, c2, rfl, hc2, hF2, hb2⟩)
 go_ret
 have hlt : ((W.alloc (.cells #[.pointer p] 24)).alloc (.cells #[.int .i64 k] 3)).heap.size = W.heap.size + 2 := by simp
 have hbw : Below W.heap.size W w2 := below_then HB2.out HB2.out.size hb2
 have a3 := below_alloc (Below.refl w2.heap.size w2) (.cells #[.slice A2 t.length c2] 23)
 refine ⟨W.heap.size, w2.heap.size, W.heap.size + 1, A2, c2, rfl, ?_, ?_, ?_, hc2, Kd.F_mono (Kd.F_below hF2 a3) (fun j hj => by omega), below_then hbw hbw.size a3⟩
 ·exact (Tup.cell_of_heap (blk a3 (blk hb2 (blk (below_alloc (Below.refl _ _) _) (heap_alloc_new W (.cells #[.pointer p] 24))))) 0).trans rfl
 ·have := heap_alloc_new (W.alloc (.cells #[.pointer p] 24)) (.cells #[.int .i64 k] 3)
  rw [World.size_alloc] at this
  exact (Tup.cell_of_heap (blk a3 (blk hb2 this)) 0).trans rfl
 ·exact (Tup.cell_of_heap (heap_alloc_new w2 (.cells #[.slice A2 t.length c2] 23)) 0).trans rfl
theorem find_enters : ∀ args w, (callFunc 45 args).run Tryz.prog w = .ok (.enter 45 args) w := enters_of Tryz.func45 (by kernel_rfl) rfl
theorem rall_enters : ∀ args w, (callFunc 54 args).run Tryz.prog w = .ok (.enter 54 args) w := enters_of Tryz.func54 (by kernel_rfl) rfl
theorem btrange_enters : ∀ args w, (callFunc 74 args).run Tryz.prog w = .ok (.enter 74 args) w := enters_of Tryz.func74 (by kernel_rfl) rfl
end Go.Proofs.YtcmllllbmgcnlaaGreat.Rl
end
section
namespace Go.Proofs.YtcmllllbmgcnlaaGreat.Rl
open Go.RowKit Go.Lib Go.Shelf Go.Proofs.YtcmllllbmgcnlaaGreat.G Go.Proofs.YtcmllllbmgcnlaaGreat.Tup Go.Proofs.YtcmllllbmgcnlaaGreatW.PrintWords Go.Proofs.YtcmllllbmgcnlaaGreatW.PrintLast Go.Proofs.YtcmllllbmgcnlaaGreatW.PrintMore
open Go.Proofs.YtcmllllbmgcnlaaGreat.Ch (pickS pick_calls)
set_option linter.unusedVariables false
set_option linter.unusedSimpArgs false
theorem pick_at {s : Int} : ∀ (os : List Tp) (i : Nat) (k : Int), pickS s i os = (k, true) → ∃ j, ∃ h : j < os.length, k = ((i + j : Nat) : Int) ∧ (coverS os[j] s).2 = true
 | [], i, k, h => by simp [pickS] at h
 | o :: os, i, k, h => by
  unfold pickS at h
  split at h
  ·rename_i hc
   injection h with h _
   exact ⟨0, by simp, by rw [← h]; rfl, hc⟩
  ·obtain ⟨j, hj, hk, hc⟩ := pick_at os (i + 1) k h
   exact ⟨j + 1, by simpa using hj, by rw [hk]; congr 1; omega, by simpa using hc⟩
theorem cover_calls (A : Option Addr) (c : Nat) (o : List Int) (s : Int) (w : World) (h : Sl w A c o) : Calls Tryz.prog 47 #[.slice A o.length c, .int .i64 s] w fun e w' => e = .returned (.tuple #[.int .i64 (coverS o s).1, .bool (coverS o s).2]) ∧ Drawn0 w w' :=
 tuple_Cover.calls (o.length + 13) _ _ o _ _ _ w h.C h.le (cover_is _ o s (by omega))
set_option maxHeartbeats 16000000 in
set_option maxRecDepth 100000 in
theorem rfind_served {ok : Nat → Prop} {w : World} {br wd : Nat} {os : List Tp} {R : List Row} {m : Nat} {bss : List Nat} (h : RelAt ok w br wd os R m bss) (Bs Bk Bi : Nat) (hBs : w.cell? ⟨Bs, 0, none⟩ = some (.pointer (some ⟨br, 0, none⟩))) (cols : Int) (hBi : w.cell? ⟨Bi, 0, none⟩ = some (.int .i64 cols)) (Ak : Option Addr) (ck : Nat) (t : Tp) (hBk : w.cell? ⟨Bk, 0, none⟩ = some (.slice Ak t.length ck)) (st : Sl w Ak ck t)
  (ht : t.length = wd) (hc0 : 0 ≤ cols) (hc1 : cols < 2 ^ wd) (hsv : (pickS cols 0 os).2 = true) :
  Seq2R Fence.wide Tryz.prog 45 #[.pointer (some ⟨Bs, 0, none⟩), .pointer (some ⟨Bk, 0, none⟩), .pointer (some ⟨Bi, 0, none⟩)] (findL wd R cols t) w := by
 intro l J Jx W hW hJ hJx hR h0 n
 refine callsIn_wide.2 ?_
 show Calls Tryz.prog 45 #[.func (.yield l) #[] #[], .pointer (some ⟨Bs, 0, none⟩), .pointer (some ⟨Bk, 0, none⟩), .pointer (some ⟨Bi, 0, none⟩)] W (GaveR W.heap.size J Jx (findL wd R cols t))
 have hRW := h.below hW
 have stW := st.below hW
 have cBs := pw_cell_below hW hBs
 have cBk := pw_cell_below hW hBk
 have cBi := pw_cell_below hW hBi
 obtain ⟨Ao, co, As, cs, hp, hco, _, hFo, hFs⟩ := hRW.hp
 have hrc := rec_of hp
 have h0c := hrc.c0
 have h1c := hrc.c1
 have hw8 := hRW.hos.w8
 obtain ⟨pk, hpk⟩ : ∃ pk, pickS cols 0 os = (pk, true) := ⟨_, by rw [← hsv]⟩
 obtain ⟨i, hi, hie, hcv⟩ := pick_at os 0 pk hpk
 rw [Nat.zero_add] at hie
 subst hie
 have hib : i < bss.length := by rw [hRW.len]; exact hi
 obtain ⟨A', c', rt, T, hS, hT⟩ := hRW.sets i hi hib
 obtain ⟨sd, rfl, hcell⟩ := nod_at (Kd.F_now hFs) i hib
 obtain ⟨od, Ai, ci, rfl, hocell, hosl⟩ := tup_at (Kd.F_now hFo) i hi
 obtain ⟨b0, hb0e⟩ : ∃ b, b = bss[i] := ⟨_, rfl⟩
 obtain ⟨o, hoe⟩ : ∃ o, o = os[i] := ⟨_, rfl⟩
 rw [← hb0e] at hcell hS
 rw [← hoe] at hocell hosl hS hcv
 have hoL := (hRW.hos.each o (by rw [hoe]; exact List.getElem_mem hi))
 obtain ⟨kk, hkk⟩ : ∃ kk, coverS o cols = (kk, true) := ⟨_, by rw [← hcv]⟩
 obtain ⟨on, hon⟩ : ∃ on, on = os.length := ⟨_, rfl⟩
 have h2c : W.cell? ⟨br, 2, none⟩ = some (.slice (some od) on co) := hrc.c2.trans (by rw [hon])
 have h3c : W.cell? ⟨br, 3, none⟩ = some (.slice (some sd) on cs) := hrc.c3.trans (by rw [hon])
 have HP := Aside0.mk (fun (w2 : World) (hs : Since W w2) => show Calls Tryz.prog 46 #[.slice (some od) on co, .int .i64 cols] w2 (fun e w' => e = .returned (.tuple #[.int .i64 (i : Int), .bool true]) ∧ Drawn0 w2 w') from by
  have := pick_calls (some od) co os cols w2 (Kd.C_below (Kd.F_now hFo) hs.b) hco (by have := hRW.hos.n; omega)
  rw [hpk, ← hon] at this
  exact this)
 have HC := Aside0.mk (fun (w2 : World) (hs : Since W w2) => show Calls Tryz.prog 47 #[.slice Ai o.length ci, .int .i64 cols] w2 (fun e w' => e = .returned (.tuple #[.int .i64 kk, .bool true]) ∧ Drawn0 w2 w') from by
  have := cover_calls Ai ci o cols w2 (hosl.below hs.b)
  rw [hkk] at this
  exact this)
 have HRg := Aside0.mk (fun (w2 : World) (hs : Since W w2) => rangec_calls w2 (some ⟨b0, 0, none⟩) kk Ak ck t (stW.below hs.b) (by omega))
 have hnl := notedL_find hRW.hR hoL.2 hoL.1 hS.fit hS.up hT hkk ht hc0 hc1
 have HN := Aside0.mk (fun (w2 w3 : World) (hs : Since W w2) (e : Ending) (hg : RangeC w2 (.pointer (some ⟨b0, 0, none⟩)) kk t e w3) => show ∃ q1 q2 q3, e = .returned (.func (.func 74) #[] #[.pointer (some ⟨q1, 0, none⟩), .pointer (some ⟨q2, 0, none⟩), .pointer (some ⟨q3, 0, none⟩)]) ∧ Since W w3 ∧ ∀ w4, Since w3 w4 → Calls Tryz.prog 48 #[.pointer (some ⟨br, 0, none⟩), .func (.func 74) #[] #[.pointer (some ⟨q1, 0, none⟩), .pointer (some ⟨q2, 0, none⟩), .pointer (some ⟨q3, 0, none⟩)], .func (.yield l) #[] #[]] w4 (GaveT W.heap.size J Jx (findL wd R cols t)) from by
  obtain ⟨q1, q2, q3, Aq, cq, rfl, e1, e2, e3, hcq, hFq, hbq⟩ := hg
  have hs3 := hs.step hbq
  refine ⟨q1, q2, q3, rfl, hs3, fun w4 hs4 => ?_⟩
  have l2 : q2 < w4.heap.size := Nat.lt_of_lt_of_le (World.block_lt_of_cell? w3 ⟨q2, 0, none⟩ e3) hs4.b.size
  have l3 : q3 < w4.heap.size := Nat.lt_of_lt_of_le (World.block_lt_of_cell? w3 ⟨q3, 0, none⟩ e2) hs4.b.size
  have hn := noted_in n (hRW.below (hs3.trans hs4).b) 74 #[.pointer (some ⟨q1, 0, none⟩), .pointer (some ⟨q2, 0, none⟩), .pointer (some ⟨q3, 0, none⟩)] (fun k => k < w4.heap.size) (fun k hk => hk) (rangeL o kk t T.io) (fun t' ht' => ?_) ?_ ?_ (seqR_T (range_seq w4 q1 q2 q3 b0 (hS.since (hs3.trans hs4)).bound (fun k hk => hk.2) (pw_cell_below hs4.b e1) Aq cq t (pw_cell_below hs4.b e3) l2 hcq (Kd.F_mono (Kd.F_bound (Kd.F_below hFq hs4.b)) fun k hk => hk.2) kk (pw_cell_below hs4.b e2) l3)) btrange_enters l W.heap.size (hs3.trans hs4).b.size J Jx hJ hJx (by rw [hnl]; exact hR) (fun W' hb => h0 W' ((hs3.trans hs4).step hb).b)
  ·rw [hnl] at hn
   exact callsIn_wide.1 hn
  ·rw [range_ref kk hoL.1 hS.fit hS.up] at ht'
   exact (hT t').1 (List.mem_filter.1 ht').1
  ·rw [range_ref kk hoL.1 hS.fit hS.up]
   exact (up_nodup hS.up).filter _
  ·exact Nat.le_trans (rangeL_len _ _ _ _) hS.le)
 have htb : ((t.length : Int) != (wd : Int)) = false := by simp [ht]
 have hcb : ¬ cols < 0 := by omega
 have hcd : decide (cols < 0) = false := decide_eq_false hcb
 have hsh : (cols / 2 ^ wd != 0) = false := by rw [Int.ediv_eq_zero_of_lt hc0 hc1]; rfl
 have hii : (0 : Int) ≤ (i : Int) ∧ (i : Int) < (on : Int) := by omega
 have HKP := Aside0.mk (fun (w' : World) (hs : Since W w') => And.intro (pw_cell_below hs.b cBs) (And.intro (pw_cell_below hs.b cBk) (And.intro (pw_cell_below hs.b cBi) (And.intro (pw_cell_below hs.b h0c) (And.intro (pw_cell_below hs.b h1c) (And.intro (pw_cell_below hs.b h2c) (And.intro (pw_cell_below hs.b h3c) (And.intro (pw_cell_below hs.b hocell) (pw_cell_below hs.b hcell)))))))))
 clear h hRW hp hFs hFo hS hT hJ hJx hR h0 hib hb0e hoe hoL hon stW st hnl hpk hcv hkk hsv hosl ht hc0 hc1 hcb
 go_enter Tryz.func45, Tryz.ntmps45
 go_wp2_with fail
 go_quiet (first | (go_at_call 38; refine (rok_calls _ br (by assumption)).mono ?_; rintro e w' ⟨rfl, rfl⟩; first | exact ⟨rfl, 0, rfl⟩ | exact ⟨rfl, _, rfl⟩))
 go_wp2_with fail
 go_quiet (first | (go_at_call 46; refine (HP.out _ (by repeat (first | exact Since.refl _ | refine Since.drewN ?_ _ | refine Since.drew ?_))).mono ?_; rintro e w' ⟨rfl, ⟨nd, rfl⟩⟩; first | exact ⟨rfl, _, World.drewN_drewN _ _ _⟩ | exact ⟨rfl, _, Eq.trans (World.drewN_drewN _ _ _) (congrArg (World.drewN _) (Nat.add_assoc _ _ _))⟩))
 go_wp2_with fail
 go_quiet (first | (go_at_call 47; refine (HC.out _ (by repeat (first | exact Since.refl _ | refine Since.drewN ?_ _ | refine Since.drew ?_))).mono ?_; rintro e w' ⟨rfl, ⟨nd, rfl⟩⟩; first | exact ⟨rfl, _, World.drewN_drewN _ _ _⟩ | exact ⟨rfl, _, Eq.trans (World.drewN_drewN _ _ _) (congrArg (World.drewN _) (Nat.add_assoc _ _ _))⟩))
 go_wp2_with fail
 generalize hV : World.drewN (World.drewN (World.drewN W _) _) _ = V
 have hsV : Since W V := by rw [← hV]; exact (((Since.refl W).drewN _).drewN _).drewN _
 clear hV
 obtain ⟨v1, v2, v3, v4, v5, v6, v7, v8, v9⟩ := HKP.out V hsV
 have hsd : Since W V.drew := hsV.drew
 clear HP HC hcd hsh htb h0c h1c h2c h3c hocell hcell cBs cBk cBi v3 v4 v5 v6 v8
 go_region_with (first
   | (go_at_call 49; (refine (HRg.out _ hsd).mono ?_); rintro e w5 hg5; obtain ⟨q1, q2, q3, rfl, hs5, hno⟩ := HN.out _ w5 hsd e hg5; have k5 := (HKP.out w5 hs5).1; have HNO := Aside0.mk hno; clear hno hg5)
   | (go_at_call 48; (refine (HNO.out _ (Since.refl _)).mono ?_); rintro e w9 ⟨rfl, hG9⟩; have HG9 := Aside0.mk hG9; clear hG9))
 all_goals go_wp2
 all_goals refine bodyPost_ret (results_none rfl _ _ _) rfl ?_
 all_goals exact ⟨⟨_, rfl⟩, HG9.out⟩
end Go.Proofs.YtcmllllbmgcnlaaGreat.Rl
end
