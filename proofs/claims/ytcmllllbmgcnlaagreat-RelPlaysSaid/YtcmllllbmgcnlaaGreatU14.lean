/- Own texts, joined and cut to what the claim stands on: BtPut, BtInsert. -/
import Derived.Test.YtcmllllbmgcnlaaGreatU13
section
namespace Go.Proofs.YtcmllllbmgcnlaaGreat.Tup
open Go.RowKit Go.Lib Go.Proofs.YtcmllllbmgcnlaaGreat.G Go.Proofs.YtcmllllbmgcnlaaGreatW.PrintWords Go.Proofs.YtcmllllbmgcnlaaGreatW.PrintLast Go.Proofs.YtcmllllbmgcnlaaGreatW.PrintMore
set_option linter.unusedVariables false
set_option linter.unusedSimpArgs false
theorem own_some {W : World} {base e : Nat} {A : Option Addr} {n c : Nat} {xs : List Value} (h : W.ownsRow base e 1 (.slice A n c) n xs) (hn : 0 < n) : ∃ g, A = some ⟨g, 0, none⟩ ∧ base ≤ g ∧ g < W.heap.size ∧ n ≤ c := by
 rcases h.2 with ⟨_, rfl⟩ | ⟨g, cap, cur, e, hb, hg, hnc, _⟩
 ·omega
 ·injection e with e1 e2 e3
  exact ⟨g, e1, hb, (Array.getElem?_eq_some_iff.1 hg).1, by omega⟩
theorem kids_els {ok : Nat → Prop} {W : World} {ps : List Nat} {kids : List BT} (hl : ps.length = kids.length) (h : ∀ (i : Nat) (h : i < kids.length) (h' : i < ps.length), NodeF ok W ps[i] kids[i]) : Els (NodeF ok W) ps kids := Els.of hl.symm fun i h1 h2 => h i h2 h1
structure Mid (fp : Nat → Prop) (W w4 : World) (base g mb m ck i kb : Nat) (x0 : Value) (us : List Value) (ps : List Nat) (K : BT) (W5 : World) : Prop where
 gi : ∃ u0, w4.cell? ⟨g, i, none⟩ = some u0
 gf : w4.frozen? ⟨g, i, none⟩ = false
 m1 : w4.cell? ⟨mb, 1, none⟩ = some (.slice (some ⟨g, 0, none⟩) m ck)
 nod : NodeF fp W5 kb K
 own : W5.ownsRow base 126 1 (.slice (some ⟨g, 0, none⟩) m ck) m (us.set i (.pointer (some ⟨kb, 0, none⟩)))
 els : Els (fun x u => u = Value.pointer (some ⟨x, 0, none⟩)) (ps.set i kb) (us.set i (.pointer (some ⟨kb, 0, none⟩)))
 hm : W5.heap[mb]? = some (.cells #[x0, .slice (some ⟨g, 0, none⟩) m ck] 132 (0, 0))
 since : Since W W5
 keep : ∀ k, k ≠ g → W5.heap[k]? = w4.heap[k]?
 size : w4.heap.size ≤ W5.heap.size
theorem put_mid {ok' : Nat → Prop} {W X w4 : World} {base g mb m ck i kb : Nat} {x0 : Value} {us : List Value} {ps : List Nat} {K : BT} (HXM : X.heap[mb]? = some (.cells #[x0, .slice (some ⟨g, 0, none⟩) m ck] 132 (0, 0))) (HSX : Since W X) (HGW : W.heap.size ≤ g) (HGX : g < X.heap.size) (hok' : ∀ k, ok' k → k < W.heap.size) (hgm : ¬ g = mb)
  (HOX : X.ownsRow base 126 1 (.slice (some ⟨g, 0, none⟩) m ck) m us) (HEX : Els (fun x u => u = Value.pointer (some ⟨x, 0, none⟩)) ps us) (him : i < m) (hb4 : Below X.heap.size X w4) (hNK : NodeF (Plus ok' X.heap.size) w4 kb K) :
  Mid (Plus ok' X.heap.size) W w4 base g mb m ck i kb x0 us ps K (w4.setCell ⟨g, i, none⟩ (.pointer (some ⟨kb, 0, none⟩))) := by
 have ho4 := own_move HOX (fun k hk => hb4.block k (own_lt HOX k hk.symm))
 have hul : us.length = m := by have := ho4.1; simpa using this
 have hgi := ho4.cells rfl i _ (List.getElem?_eq_getElem (by omega))
 rw [Addr.add_lit, Nat.zero_add] at hgi
 have hst := ho4.stored i (.pointer (some ⟨kb, 0, none⟩))
 refine ⟨⟨_, hgi⟩, ho4.frozenAt i, (cell_of_heap (blk hb4 HXM) 1).trans rfl, hNK.step (fun k hk hlt => Below.heap_setCell _ _ _ _ ?_), hst.1, HEX.set i rfl, ?_, (HSX.step hb4).set HGW _ _, fun k hk => Below.heap_setCell _ _ _ _ hk, hst.2.size⟩
 ·show k ≠ g
  rcases hk with hk | hk
  ·have := hok' k hk
   omega
  ·omega
 ·rw [Below.heap_setCell _ _ _ _ (show mb ≠ g from fun e => hgm e.symm)]; exact blk hb4 HXM
theorem put_small {ok ok' : Nat → Prop} {W X w4 W5 : World} {base g mb m ck i n kb : Nat} {A0 : Option Addr} {c0 : Nat} {us : List Value} {ts : List Tp} {kids : List BT} {ps : List Nat} {K : BT} (hM : Mid (Plus ok' X.heap.size) W w4 base g mb m ck i kb (.slice A0 n c0) us ps K W5) (HSX : Since W X) (HMW : W.heap.size ≤ mb) (hbg : W.heap.size ≤ base) (hgc : m ≤ ck) (hc0 : n ≤ c0) (hn : n = ts.length) (hm : m = ps.length) (hl : ps.length = kids.length)
  (hok : ∀ k, ok' k → ok k) (hT : Kd.F KT W ok' A0 n ts) (hk : ∀ (i : Nat) (h : i < kids.length) (h' : i < ps.length), NodeF ok' W ps[i] kids[i]) : NodeF (Plus ok W.heap.size) W5 mb (.mk ts (kids.set i K)) := by
 subst hn hm
 have hE : Els (NodeF (Plus ok W.heap.size) W5) (ps.set i kb) (kids.set i K) := by
  refine Els.set ((kids_els hl hk).imp fun p k h => (h.under hM.since.b).mono fun q hq => .inl (hok q hq)) i (hM.nod.mono fun k h => h.imp (hok k) (Nat.le_trans HSX.b.size))
 obtain ⟨A, c, e, hle, hF⟩ := rows_in (d := KN) (ok := fun _ => False) (xs := ps.set i kb) rfl hM.own (hM.els.imp fun x u h => by subst h; exact nod_el x) (by simp)
 injection e with e1 e2 e3
 subst e1
 have og := own_ge hM.own
 have e1 : (ps.set i kb).length = ps.length := by simp
 refine .mk mb A0 c0 (some ⟨g, 0, none⟩) ck ts (kids.set i K) (ps.set i kb) (.inr HMW) ((cell_of_heap hM.hm 0).trans rfl) (e1 ▸ (cell_of_heap hM.hm 1).trans rfl) hc0 (e1 ▸ hgc) (by simp [hl]) (Kd.F_mono (Kd.F_below hT hM.since.b) fun k h => .inl (hok k h)) ?_ (fun j h1 h2 => hE.get j h2 h1)
 refine Kd.F_mono hF fun k hk => hk.elim False.elim fun hk => .inr (Nat.le_trans hbg (og k ?_))
 rw [hk]
theorem insN_put (W w8 : World) (base g mb m ck i l r : Nat) (us : List Value) (ps : List Nat) (x0 v8 : Value) (ho : w8.ownsRow base 126 1 (.slice (some ⟨g, 0, none⟩) m ck) m us) (hE : Els (fun x u => u = Value.pointer (some ⟨x, 0, none⟩)) ps us) (hgm : ¬ g = mb) (hm : w8.heap[mb]? = some (.cells #[x0, .slice (some ⟨g, 0, none⟩) m ck] 132 (0, 0)))
  (hi : i < m) (hs : Since W w8) (hgw : W.heap.size ≤ g) (hmw : W.heap.size ≤ mb) (hbg : base ≤ g) (hm2 : m ≤ 1000000) (hmp : m = ps.length) (vb : Nat) (hvb : vb = w8.heap.size) (W10 : World) (hW10 : W10 = (w8.setCell ⟨mb, 0, none⟩ v8).setCell ⟨g, i, none⟩ (.pointer (some ⟨l, 0, none⟩))) :
  Calls Tryz.prog 91 #[.slice (some ⟨g, 0, none⟩) m ck, .int .i64 ((i : Int) + 1), .slice (some ⟨vb, 0, none⟩) 1 1] (W10.alloc (.cells #[.pointer (some ⟨r, 0, none⟩)] 126)) fun e w11 =>
   ∃ A c, e = .returned (.slice A (m + 1) c) ∧ m + 1 ≤ c ∧ Kd.F KN w11 (fun k => k = g ∨ w8.heap.size ≤ k) A (m + 1) (insL (ps.set i l) (i + 1) r) ∧ w11.heap[mb]? = some (.cells #[v8, .slice (some ⟨g, 0, none⟩) m ck] 132 (0, 0)) ∧ (∀ k, k ≠ g → k ≠ mb → k < w8.heap.size → w11.heap[k]? = w8.heap[k]?) ∧ Since W w11 ∧ w8.heap.size ≤ w11.heap.size := by
 have hgl : g < w8.heap.size := own_lt ho g rfl
 have o9 := own_setCell ho (p := ⟨mb, 0, none⟩) (by simp only [Value.ownBlock, ne_eq, Option.some.injEq]; exact fun e => hgm e.symm) v8
 have o10 := o9.stored i (.pointer (some ⟨l, 0, none⟩))
 rw [← hW10] at o10
 have h9 : (w8.setCell ⟨mb, 0, none⟩ v8).heap[mb]? = some (.cells #[v8, .slice (some ⟨g, 0, none⟩) m ck] 132 (0, 0)) := heap_setCell_same w8 mb 0 _ _ v8 hm
 have h10 : W10.heap[mb]? = some (.cells #[v8, .slice (some ⟨g, 0, none⟩) m ck] 132 (0, 0)) := by
  rw [hW10, Below.heap_setCell _ _ _ _ (show mb ≠ g from fun e => hgm e.symm)]; exact h9
 have hsz : W10.heap.size = w8.heap.size := by rw [hW10]; simp
 have hvb' : vb = W10.heap.size := hvb.trans hsz.symm
 subst hvb'
 have hk10 : ∀ k, k ≠ g → k ≠ mb → W10.heap[k]? = w8.heap[k]? := fun k h1 h2 => by
  rw [hW10, Below.heap_setCell _ _ _ _ h1, Below.heap_setCell _ _ _ _ h2]
 have hs10 : Since W W10 := by rw [hW10]; exact (hs.set hmw _ _).set hgw _ _
 have ha := below_alloc (Below.refl W10.heap.size W10) (.cells #[.pointer (some ⟨r, 0, none⟩)] 126)
 have oA := own_move o10.1 (fun k hk => ha.block k (own_lt o10.1 k hk.symm))
 have ei : ((i : Int) + 1) = ((i + 1 : Nat) : Int) := by omega
 rw [ei]
 refine (insNF_calls _ (fun _ => False) base _ m (ps.set i l) _ oA (by simp [hmp]) ((hE.set i rfl).imp fun x u h => by subst h; exact nod_el x) (fun k h => h.elim) (i + 1) (by omega) r _ (nod_el r) W10.heap.size (heap_alloc_new _ _) (Nat.le_trans (Nat.le_trans hbg (Nat.le_of_lt hgl)) (hsz ▸ ha.size)) hm2 (by simp only [Value.ownBlock, ne_eq, Option.some.injEq]; omega)).mono ?_
 rintro e w11 ⟨A, c, rfl, hc, hF, hg⟩
 have hgb : ∀ k, k ≠ g → k < W10.heap.size → w11.heap[k]? = W10.heap[k]? := fun k h1 h2 => by
  rw [hg.block k (Nat.lt_of_lt_of_le h2 ha.size) (by simp only [Value.ownBlock, ne_eq, Option.some.injEq]; exact h1), ha.block k h2]
 refine ⟨A, c, rfl, hc, Kd.F_mono hF fun k hk => ?_, ?_, fun k h1 h2 h3 => ?_, ⟨(hs10.alloc _).b.grown hg (hs10.alloc _).b.size (fun k hk => ?_)⟩, ?_⟩
 ·rcases hk with hk | hk | hk
  ·exact hk.elim
  ·left; simpa [Value.ownBlock] using hk
  ·right; have := ha.size; omega
 ·rw [hgb mb (fun e => hgm e.symm) (Array.getElem?_eq_some_iff.1 h10).1]; exact h10
 ·rw [hgb k h1 (by omega), hk10 k h1 h2]
 ·have : k = g := by simpa [Value.ownBlock] using hk.symm
  omega
 ·have := hg.size; have := ha.size; omega
theorem put_big {ok ok' : Nat → Prop} {W X w4 W5 w6 w8 w11 : World} {base g mb m ck i n kb l r : Nat} {x0 : Value} {us : List Value} {ts : List Tp} {kids : List BT} {ps : List Nat} {K L R : BT} {mid : Tp} (hM : Mid (Plus ok' X.heap.size) W w4 base g mb m ck i kb x0 us ps K W5) (HSX : Since W X) (HMW : W.heap.size ≤ mb) (HGW : W.heap.size ≤ g) (HGX : g < X.heap.size) (HMX : mb < X.heap.size) (hgm : ¬ g = mb) (hl : ps.length = kids.length) (hm : m = ps.length) (hn : n = ts.length) (hin : i ≤ n) (him : i < m) (h45 : X.heap.size ≤ W5.heap.size)
  (hok : ∀ k, ok' k → ok k) (hok' : ∀ k, ok' k → k < W.heap.size) (hk : ∀ (i : Nat) (h : i < kids.length) (h' : i < ps.length), NodeF ok' W ps[i] kids[i])
  (hb6 : Below W5.heap.size W5 w6) (hL : NodeF (Plus (Plus ok' X.heap.size) W5.heap.size) w6 l L) (hR : NodeF (Plus (Plus ok' X.heap.size) W5.heap.size) w6 r R) (hb8 : Below w6.heap.size w6 w8) {A8 : Option Addr} {c8 : Nat} (hc8 : n + 1 ≤ c8) (hF8 : Kd.F KT w8 (Plus (fun k => Plus ok' X.heap.size k ∧ k < w6.heap.size) w6.heap.size) A8 (n + 1) (insL ts i mid))
  {A11 : Option Addr} {c11 : Nat} (hc11 : m + 1 ≤ c11) (hF11 : Kd.F KN w11 (fun k => k = g ∨ w8.heap.size ≤ k) A11 (m + 1) (insL (ps.set i l) (i + 1) r)) (hm11 : w11.heap[mb]? = some (.cells #[.slice A8 (n + 1) c8, .slice (some ⟨g, 0, none⟩) m ck] 132 (0, 0))) (hk11 : ∀ k, k ≠ g → k ≠ mb → k < w8.heap.size → w11.heap[k]? = w8.heap[k]?) :
  NodeF (Plus ok W.heap.size) (w11.setCell ⟨mb, 1, none⟩ (.slice A11 (m + 1) c11)) mb (.mk (insL ts i mid) (insL (kids.set i L) (i + 1) R)) := by
 have s6 := hb6.size
 have s8 := hb8.size
 obtain ⟨Z, hZ⟩ : ∃ Z, Z = w11.setCell ⟨mb, 1, none⟩ (.slice A11 (m + 1) c11) := ⟨_, rfl⟩
 have z0 : Z.cell? ⟨mb, 0, none⟩ = some (.slice A8 (n + 1) c8) := by
  rw [hZ, World.cell?_setCell_other _ _ _ _ (fun e => by injection e with _ e; cases e)]; exact (cell_of_heap hm11 0).trans rfl
 have z1 : Z.cell? ⟨mb, 1, none⟩ = some (.slice A11 (m + 1) c11) := by
  rw [hZ]; exact World.cell?_setCell_same' _ _ _ (by rw [cell_of_heap hm11 1]; rfl)
 have zk : ∀ k, k ≠ g → k ≠ mb → k < w8.heap.size → Z.heap[k]? = w8.heap[k]? := fun k h1 h2 h3 => by
  rw [hZ, Below.heap_setCell _ _ _ _ h2]; exact hk11 k h1 h2 h3
 have fpX : ∀ k, Plus ok' X.heap.size k → k ≠ g ∧ k ≠ mb := fun k h => by
  rcases h with h | h
  ·have := hok' k h; omega
  ·omega
 have fp5 : ∀ k, Plus (Plus ok' X.heap.size) W5.heap.size k → k ≠ g ∧ k ≠ mb := fun k h => by
  rcases h with h | h
  ·exact fpX k h
  ·omega
 have up5 : ∀ k, Plus (Plus ok' X.heap.size) W5.heap.size k → Plus ok W.heap.size k := fun k h => by
  rcases h with (h | h) | h
  ·exact .inl (hok k h)
  ·exact .inr (Nat.le_trans HSX.b.size h)
  ·exact .inr (Nat.le_trans HSX.b.size (Nat.le_trans h45 h))
 have nod6 : ∀ {q : Nat} {T : BT}, NodeF (Plus (Plus ok' X.heap.size) W5.heap.size) w6 q T → NodeF (Plus ok W.heap.size) Z q T := fun h =>
  (h.step fun k hk hlt => by rw [zk k (fp5 k hk).1 (fp5 k hk).2 (by omega), hb8.block k hlt]).mono up5
 have hE : Els (NodeF (Plus ok W.heap.size) Z) (insL (ps.set i l) (i + 1) r) (insL (kids.set i L) (i + 1) R) := by
  refine Els.ins (Els.set ((kids_els hl hk).imp fun p q h => ?_) i (nod6 hL)) (i + 1) (nod6 hR)
  exact nod6 ((h.under (hM.since.step hb6).b).mono fun k hk => .inl (.inl hk))
 subst hZ
 have e1 : n + 1 = (insL ts i mid).length := by simp [insL]; omega
 have e2 : m + 1 = (insL (ps.set i l) (i + 1) r).length := by simp [insL]; omega
 refine .mk mb A8 c8 A11 c11 _ _ (insL (ps.set i l) (i + 1) r) (.inr HMW) (e1 ▸ z0) (e2 ▸ z1) (e1 ▸ hc8) (e2 ▸ hc11) (by simp [insL, hl]) (e1 ▸ Kd.F_mono (Kd.F_step hF8 fun k hk hlt => ?_) fun k hk => ?_) (e2 ▸ Kd.F_mono (Kd.F_step hF11 fun k hk hlt => Below.heap_setCell _ _ _ _ ?_) fun k hk => ?_) (fun j h1 h2 => hE.get j h2 h1)
 ·have : k ≠ g ∧ k ≠ mb := by
   rcases hk with hk | hk
   ·exact fpX k hk.1
   ·omega
  exact zk k this.1 this.2 hlt
 ·rcases hk with hk | hk
  ·exact up5 k (.inl hk.1)
  ·exact up5 k (.inr (Nat.le_trans s6 hk))
 ·show k ≠ mb
  rcases hk with hk | hk
  ·omega
  ·omega
 ·right
  rcases hk with hk | hk
  ·omega
  ·have := HSX.b.size; omega
theorem own_cell {W : World} {base e m ck g i : Nat} {us : List Value} (h : W.ownsRow base e 1 (.slice (some ⟨g, 0, none⟩) m ck) m us) (hi : i < m) : ∃ u, W.cell? ⟨g, i, none⟩ = some u := by
 have hl : us.length = m := by have := h.1; simpa using this
 have := h.cells rfl i _ (List.getElem?_eq_getElem (by omega))
 rw [Addr.add_lit, Nat.zero_add] at this
 exact ⟨_, this⟩
theorem node_top {fp : Nat → Prop} {W : World} {kb : Nat} {K : BT} (h : NodeF fp W kb K) : ∃ ts' kids' n' A0' c0', K = .mk ts' kids' ∧ n' = ts'.length ∧ W.cell? ⟨kb, 0, none⟩ = some (.slice A0' n' c0') := by
 cases h with
 | mk kb A0' c0' A1' c1' ts' kids' ps' hokk hk0 hk1 hkc0 hkc1 hkl hkT hkN hkk => exact ⟨ts', kids', _, A0', c0', rfl, rfl, hk0⟩
def SplF (fp : Nat → Prop) (W5 : World) (mid : Tp) (L R : BT) (e : Ending) (w6 : World) : Prop :=
 ∃ l r Am cm, e = .returned (.tuple #[.pointer (some ⟨l, 0, none⟩), .slice Am mid.length cm, .pointer (some ⟨r, 0, none⟩)]) ∧ Below W5.heap.size W5 w6 ∧ El KT w6 (Plus fp W5.heap.size) mid (.slice Am mid.length cm) ∧ NodeF (Plus fp W5.heap.size) w6 l L ∧ NodeF (Plus fp W5.heap.size) w6 r R
theorem split_spl {fp : Nat → Prop} {W5 : World} {kb : Nat} {ts' : List Tp} {kids' : List BT} (h : NodeF fp W5 kb (.mk ts' kids')) (hok : (BT.mk ts' kids').Ok) (h1 : ts'.length ≤ 2000) (h2 : 2 < ts'.length) :
  Calls Tryz.prog 68 #[.pointer (some ⟨kb, 0, none⟩)] W5 (SplF fp W5 (ts'[ts'.length / 2]?.getD []) (.mk (ts'.take (ts'.length / 2)) (kids'.take (ts'.length / 2 + 1))) (.mk (ts'.drop (ts'.length / 2 + 1)) (kids'.drop (ts'.length / 2 + 1)))) := by
 refine (split_calls W5 kb ts' kids' h hok h1 h2 _ rfl).mono ?_
 rintro e w6 ⟨l, r, Am, cm, rfl, hb, hcm, hF, hL, hR⟩
 exact ⟨l, r, Am, cm, rfl, hb, tup_el hcm hF, hL, hR⟩
set_option maxHeartbeats 4000000 in
set_option maxRecDepth 100000 in
theorem put_inner {ok : Nat → Prop} (W : World) (bs : Nat) (Ao : Option Addr) (co : Nat) (o : Tp) (hs : W.cell? ⟨bs, 1, none⟩ = some (.slice Ao o.length co)) (so : Sl W Ao co o) (b : Nat) (A0 : Option Addr) (c0 : Nat) (A1 : Option Addr) (c1 m : Nat) (ts : List Tp) (kids : List BT) (ps : List Nat) (h0 : W.cell? ⟨b, 0, none⟩ = some (.slice A0 ts.length c0)) (h1 : W.cell? ⟨b, 1, none⟩ = some (.slice A1 m c1)) (hc0 : ts.length ≤ c0) (hc1 : m ≤ c1)
    (hT : Kd.F KT W ok A0 ts.length ts) (hN : Kd.F KN W ok A1 m ps) (hm : m = ts.length + 1) (hmp : m = ps.length) (hl : ps.length = kids.length) (hk : ∀ (i : Nat) (h : i < kids.length) (h' : i < ps.length), NodeF ok W ps[i] kids[i])
    (hokT : (BT.mk ts kids).Ok) (hup : Up o (BT.mk ts kids).io) (hfit : ∀ a ∈ (BT.mk ts kids).io, Fit o a) (hn : (BT.mk ts kids).io.length ≤ 1024) (At : Option Addr) (ct : Nat) (t : Tp) (st : Kd.F (Kd.int .i64) W ok At t.length t) (hct : t.length ≤ ct) (hft : Fit o t) (hnt : t ∉ (BT.mk ts kids).io)
    (i : Nat) (hi : i = idx o ts t) (hip : i < ps.length) (hik : i < kids.length)
    (HP : ∀ X, Since W X → Calls Tryz.prog 67 #[.pointer (some ⟨bs, 0, none⟩), .pointer (some ⟨ps[i], 0, none⟩), .slice At t.length ct] X (PutR (fun k => ok k ∧ k < W.heap.size) X o t kids[i])) :
    Calls Tryz.prog 67 #[.pointer (some ⟨bs, 0, none⟩), .pointer (some ⟨b, 0, none⟩), .slice At t.length ct] W (PutR ok W o t (.mk ts kids)) := by
  obtain ⟨n, hnn⟩ : ∃ n, n = ts.length := ⟨_, rfl⟩
  obtain ⟨ok', hok'⟩ : ∃ ok', ok' = fun k => ok k ∧ k < W.heap.size := ⟨_, rfl⟩
  rw [← hok'] at HP
  have stl : Sl W At ct t := ⟨Kd.F_now st, hct⟩
  have hT0 := Kd.F_bound hT
  have hN0 := Kd.F_bound hN
  have st0 := Kd.F_bound st
  have hK0 := fun i h h' => (hk i h h').bound
  rw [← hok'] at hT0 hN0 st0
  simp only [← hok'] at hK0
  have hus := Up.ts (io_ts hokT) (by rw [← BT.io_mk]; exact hup)
  have htl : ts.length ≤ 1024 := by
    have := weave_len (kids.map BT.io) ts (io_ts hokT)
    rw [← BT.io_mk] at this
    omega
  have htf : ∀ a ∈ ts, Fit o a := fun a ha => hfit a (by rw [BT.io_mk]; exact weave_mem_ts _ _ (io_ts hokT) a ha)
  have hnt0 : t ∉ ts := fun h => hnt (by rw [BT.io_mk]; exact weave_mem_ts _ _ (io_ts hokT) t h)
  have hkl : (kids[i]).io.length ≤ 1024 := by
    have h2 : (kids[i]).io.length ≤ (BT.mk ts kids).io.length := by
      rw [BT.io_mk, weave_at (kids.map BT.io) ts i (by have := io_ts hokT; rcases this with h | h
                                                       · simp at h; simp [h] at hik
                                                       · exact h) (by rw [hi]; exact idx_le _ _ _)]
      have eg : (kids.map BT.io)[i]?.getD [] = (kids[i]).io := by simp [hik]
      rw [eg]; simp; omega
    omega
  have hdec := decide_eq_false hnt0
  have FC := Aside0.mk (find_calls W bs Ao co o hs so b A0 c0 ts h0 (Kd.F_now hT) (by omega) hc0 htf hus At ct t stl hft)
  rw [hdec, ← hi] at FC
  obtain ⟨kb0, hkb0⟩ : ∃ kb0, kb0 = ps[i] := ⟨_, rfl⟩
  obtain ⟨K0, hK00⟩ : ∃ K0, K0 = kids[i] := ⟨_, rfl⟩
  obtain ⟨ad1, rfl, hcel⟩ := nod_at (hmp ▸ Kd.F_now hN) i hip
  rw [← hnn] at h0 hT0 hc0 hm htl
  rw [← hkb0] at HP hcel
  rw [← hK00] at HP hkl
  have hmpos : 0 < m := by omega
  have him : i < m := by omega
  have b1 : (0 : Int) ≤ (i : Int) := by omega
  have b2 : (i : Int) < (m : Int) := by omega
  have hne0 : ¬ m = 0 := by omega
  have hne1 : ((m : Int) == 0) = false := beq_eq_false_iff_ne.2 (by omega)
  have HP1 := Aside0.mk (show ∀ K : BT, K.Ok → K.io = insO o t K0.io → (BT.mk ts (kids.set i K)).Ok ∧ (BT.mk ts (kids.set i K)).io = insO o t (BT.mk ts kids).io from by subst hi; subst hK00; exact fun K h1 h2 => kid_io hokT hup hfit hft hnt0 hik K h1 h2)
  have HP2 := Aside0.mk (show ∀ (ts' : List Tp) (kids' : List BT), (BT.mk ts' kids').Ok → (BT.mk ts' kids').io = insO o t K0.io → ∀ h, h < ts'.length →
    (BT.mk (insL ts i (ts'[h]?.getD [])) (insL (kids.set i (BT.mk (ts'.take h) (kids'.take (h + 1)))) (i + 1) (BT.mk (ts'.drop (h + 1)) (kids'.drop (h + 1))))).Ok ∧ (BT.mk (insL ts i (ts'[h]?.getD [])) (insL (kids.set i (BT.mk (ts'.take h) (kids'.take (h + 1)))) (i + 1) (BT.mk (ts'.drop (h + 1)) (kids'.drop (h + 1))))).io = insO o t (BT.mk ts kids).io from by subst hi; subst hK00; exact fun ts' kids' h1 h2 h hh => kids_io hokT hup hfit hft hnt0 hik ts' kids' h1 h2 h hh)
  have HN0 := Aside0.mk hN0
  have HT0 := Aside0.mk hT0
  have HNN := Aside0.mk hnn
  have HOK := Aside0.mk hok'
  have HKK := Aside0.mk hK0
  have HPX := Aside0.mk HP
  have HKL := Aside0.mk hkl
  have HML := Aside0.mk (And.intro hm (And.intro hmp hl))
  have HKP := Aside0.mk (show ∀ w', Since W w' → (w'.cell? ⟨b, 0, none⟩ = some (.slice A0 n c0) ∧ w'.cell? ⟨b, 1, none⟩ = some (.slice (some ad1) m c1)) ∧ Since W w' from fun w' hs => ⟨⟨pw_cell_below hs.b h0, pw_cell_below hs.b h1⟩, hs⟩)
  have HCE := Aside0.mk hcel
  have z0 : Aside0 (ts.length ≤ 1000000) := ⟨by omega⟩
  have z1 : Aside0 (n ≤ 1000000) := ⟨by omega⟩
  have z2 : Aside0 (ps.length ≤ 1000000) := ⟨by omega⟩
  have HIN : Aside0 (i ≤ n) := ⟨by omega⟩
  have z3 : Aside0 (n ≤ 1024) := ⟨by omega⟩
  clear h0 h1 hT hN hT0 hN0 st st0 hok' hnt hdec hfit hup hi hnn hs so stl hft hn hk hK0 HP hm hmp hl hus htl htf hnt0 hkl hkb0 hK00 hcel hokT hip hik
  go_enter Tryz.func67, Tryz.ntmps67
  go_wp2_with (go_at_call 87; refine FC.out.mono ?_; rintro e w1 ⟨rfl, hb1⟩)
  have hS1 := (Since.mk hb1).drew
  go_region_held3 (fun w' => (w'.cell? ⟨b, 0, none⟩ = some (.slice A0 n c0) ∧ w'.cell? ⟨b, 1, none⟩ = some (.slice (some ad1) m c1)) ∧ Since W w')
    (first | exact HKP.out _ hS1 | (go_split_ands; first | exact HKP.out _ (Since.step (by assumption) (by assumption)) | exact HKP.out _ (Since.alloc (by assumption) _)))
    (first
    | (go_at_call 88; ((with_reducible refine (cloneNR_calls _ ok' _ m _ ps ?s1 z2.out HML.out.2.1).mono ?_)); (case s1 => (go_split_ands; exact (HML.out.2.1 ▸ Kd.F_below HN0.out (Since.b (by assumption))))); rintro e w2 ⟨Ak, ck, us, rfl, hE, ho, hb2⟩; obtain ⟨g, rfl, hgb, hgl, hgc⟩ := own_some ho hmpos))
  obtain ⟨mb, hmb⟩ : ∃ mb, mb = w2.heap.size := ⟨_, rfl⟩
  obtain ⟨X, hX⟩ : ∃ X, X = w2.alloc (.cells #[.slice A0 n c0, .slice (some ⟨g, 0, none⟩) m ck] 132) := ⟨_, rfl⟩
  have HXM := Aside0.mk (show X.heap[mb]? = some (.cells #[.slice A0 n c0, .slice (some ⟨g, 0, none⟩) m ck] 132 (0, 0)) by rw [hX, hmb]; exact heap_alloc_new _ _)
  have HX2 : Below w2.heap.size w2 X := by rw [hX]; exact below_alloc (Below.refl _ _) _
  have HSX := Aside0.mk (show Since W X by rw [hX]; exact (hS1.step hb2).alloc _)
  have HMW := Aside0.mk (show W.heap.size ≤ mb by rw [hmb]; exact (hS1.step hb2).b.size)
  have HGW := Aside0.mk (show W.heap.size ≤ g from Nat.le_trans hS1.b.size hgb)
  have HGX := Aside0.mk (show g < X.heap.size from Nat.lt_of_lt_of_le hgl HX2.size)
  have hgm : ¬ g = mb := by omega
  have hmg : ¬ mb = g := by omega
  have HOX := Aside0.mk (own_move ho (fun k hk => HX2.block k (own_lt ho k hk.symm)))
  have HEX := Aside0.mk (hE.imp (R' := fun x u => u = .pointer (some ⟨x, 0, none⟩)) fun x u h => el_nod h)
  have HCX := Aside0.mk (pw_cell_below HSX.out.b HCE.out)
  obtain ⟨hx0, hx1⟩ := (HKP.out X HSX.out).1
  have hx2 := HCX.out
  rw [← hX, ← hmb]
  obtain ⟨base, hbase⟩ : ∃ base, base = w1.drew.heap.size := ⟨_, rfl⟩
  rw [← hbase] at HOX
  have HBA := Aside0.mk (show W.heap.size ≤ base ∧ base ≤ g by rw [hbase]; exact ⟨hS1.b.size, hgb⟩)
  clear hX hmb hS1 hb1 hb2 hE ho hgb hgl HX2 hbase
  have HOKW := Aside0.mk (show ∀ k, ok' k → k < W.heap.size from fun k hk => by rw [HOK.out] at hk; exact hk.2)
  have HMX := Aside0.mk (Array.getElem?_eq_some_iff.1 HXM.out).1
  have hw1 : IntKind.i64.wrap ((i : Int) + 1) = (i : Int) + 1 := by have := HIN.out; have := z1.out; rw [IntKind.wrap_i64]; omega
  go_wp2_with (first
    | (go_at_call 67; ((with_reducible refine (HPX.out X HSX.out).mono ?_)); rintro e w4 ⟨kb, K, rfl, hb4, hNK, hKok, hKio⟩; have HM5 := Aside0.mk (put_mid HXM.out HSX.out HGW.out HGX.out HOKW.out hgm HOX.out HEX.out him hb4 hNK); obtain ⟨ts', kids', n', A0', c0', hKe, hn', hk5⟩ := node_top HM5.out.nod; obtain ⟨u0, hgi⟩ := HM5.out.gi; have hgf := HM5.out.gf; have hm1 := HM5.out.m1; have hK1 := HP1.out K hKok hKio; have HK1 := Aside0.mk hK1; have HX4 := Aside0.mk hb4.size;
        have HSP := Aside0.mk (show 15 < n' → ∃ mid L R, ((BT.mk (insL ts i mid) (insL (kids.set i L) (i + 1) R)).Ok ∧ (BT.mk (insL ts i mid) (insL (kids.set i L) (i + 1) R)).io = insO o t (BT.mk ts kids).io) ∧ Calls Tryz.prog 68 #[.pointer (some ⟨kb, 0, none⟩)] (w4.setCell ⟨g, i, none⟩ (.pointer (some ⟨kb, 0, none⟩))) (SplF (Plus ok' X.heap.size) (w4.setCell ⟨g, i, none⟩ (.pointer (some ⟨kb, 0, none⟩))) mid L R) from fun hbig => by
          subst hKe
          have hl1 := weave_len (kids'.map BT.io) ts' (io_ts hKok)
          rw [← BT.io_mk, hKio, insO_len] at hl1
          have := HKL.out
          exact ⟨_, _, _, HP2.out ts' kids' hKok hKio (ts'.length / 2) (by omega), split_spl HM5.out.nod hKok (by omega) (by omega)⟩);
        clear hb4 hNK hKok hKio hKe hn' hK1)
    | (go_at_call 68; obtain ⟨mid, L, R, hpure, hcalls⟩ := HSP.out (by omega); ((with_reducible refine hcalls.mono ?_)); rintro e w6 ⟨l, r, Am, cm, rfl, hb6, hEl, hNl, hNr⟩; have HS6 := Aside0.mk (HM5.out.since.step hb6); obtain ⟨h06, h16⟩ := (HKP.out _ HS6.out).1; have HPU := Aside0.mk hpure; have HEL := Aside0.mk hEl; have HNL := Aside0.mk hNl; have HNR := Aside0.mk hNr; have HB6 := Aside0.mk hb6; clear hpure hcalls hb6 hEl hNl hNr h16)
    | (go_at_call 90; ((with_reducible refine (cloneTR_calls w6 (fun k => Plus ok' X.heap.size k ∧ k < w6.heap.size) A0 n c0 ts ?s1 z0.out HNN.out).mono ?_)); (case s1 => exact Kd.F_bound (Kd.F_mono (HNN.out ▸ Kd.F_below HT0.out HS6.out.b) (fun k h => .inl h))); rintro e w7 ⟨A3, c3, us7, rfl, hE7, ho7, hb7⟩; have HE7 := Aside0.mk hE7; have HO7 := Aside0.mk ho7; have HB7 := Aside0.mk hb7; clear hE7 ho7 hb7)
    | (go_at_call 89; ((with_reducible refine (insT_after w6 w7 (fun k => Plus ok' X.heap.size k ∧ k < w6.heap.size) A3 n c3 ts us7 HE7.out HO7.out HB7.out (fun k h => h.2) HNN.out z1.out i HIN.out mid Am cm ?s1).mono ?_)); (case s1 => exact (Foot.bound HEL.out).mono fun k hk => ⟨hk.1.elim id fun h => .inr (Nat.le_trans (Nat.le_trans HX4.out HM5.out.size) h), hk.2⟩); rintro e w8 ⟨A8, c8, rfl, hc8, hF8, hb8⟩;
        have hm8 := blk hb8 (blk HB6.out HM5.out.hm); have hm80 := (cell_of_heap hm8 0).trans rfl; have hm81 := (cell_of_heap hm8 1).trans rfl; have fm8 := free_of_heap hm8 0; have own6 := own_move HM5.out.own (fun k hk => HB6.out.block k (own_lt HM5.out.own k hk.symm)); have own8 := own_move own6 (fun k hk => hb8.block k (own_lt own6 k hk.symm)); obtain ⟨u8, g8⟩ := own_cell own8 him; have f8 := own8.frozenAt i; have HO8 := Aside0.mk own8; have HS8 := Aside0.mk (HS6.out.step hb8); have HM8 := Aside0.mk hm8; have HF8 := Aside0.mk hF8; have HB8 := Aside0.mk hb8; clear hm8 own6 own8 hF8 hb8)
    | (go_at_call 91; ((with_reducible refine (insN_put W w8 base g mb m ck i l r _ (ps.set i kb) _ (.slice A8 (n + 1) c8) HO8.out HM5.out.els hgm HM8.out him HS8.out HGW.out HMW.out HBA.out.2 ?s1 ?s2 _ rfl _ rfl).mono ?_)); (case s1 => (have := HML.out; have := z3.out; omega)); (case s2 => (have := HML.out; simp; omega)); rintro e w11 ⟨A11, c11, rfl, hc11, hF11, hm11, hk11, hs11, hsz11⟩; have m110 := (cell_of_heap hm11 1).trans rfl; have f11 := free_of_heap hm11 1; have HF11 := Aside0.mk hF11; have HM11 := Aside0.mk hm11; have HK11 := Aside0.mk hk11; have HS11 := Aside0.mk hs11; clear hF11 hm11 hk11 hs11))
  · go_ret
    have hlr := HML.out
    have hsp := HS11.out.set HMW.out 1 (.slice A11 (m + 1) c11)
    have hps : Kd.F KN w11 (fun k => k = g ∨ w8.heap.size ≤ k) A11 (m + 1) (insL (ps.set i l) (i + 1) r) := by simpa using HF11.out
    exact ⟨mb, _, rfl, hsp.b, put_big HM5.out HSX.out HMW.out HGW.out HGX.out HMX.out hgm hlr.2.2 hlr.2.1 HNN.out HIN.out him (Nat.le_trans HX4.out HM5.out.size) (fun k hk => by rw [HOK.out] at hk; exact hk.1) HOKW.out HKK.out HB6.out HNL.out HNR.out HB8.out hc8 HF8.out hc11 hps HM11.out HK11.out, HPU.out.1, HPU.out.2⟩
  · go_ret
    have hlr := HML.out
    exact ⟨mb, _, rfl, HM5.out.since.b, put_small HM5.out HSX.out HMW.out HBA.out.1 hgc hc0 HNN.out hlr.2.1 hlr.2.2 (fun k hk => by rw [HOK.out] at hk; exact hk.1) HT0.out HKK.out, HK1.out.1, HK1.out.2⟩
theorem put_calls (N : Nat) : ∀ {ok : Nat → Prop} (T : BT) (hN : SizeOf.sizeOf T < N) (W : World) (bs : Nat) (Ao : Option Addr) (co : Nat) (o : Tp) (hs : W.cell? ⟨bs, 1, none⟩ = some (.slice Ao o.length co)) (so : Sl W Ao co o) (b : Nat) (hT : NodeF ok W b T)
  (hokT : T.Ok) (hup : Up o T.io) (hfit : ∀ a ∈ T.io, Fit o a) (hn : T.io.length ≤ 1024) (At : Option Addr) (ct : Nat) (t : Tp) (st : Kd.F (Kd.int .i64) W ok At t.length t) (hct : t.length ≤ ct) (hft : Fit o t) (hnt : t ∉ T.io),
  Calls Tryz.prog 67 #[.pointer (some ⟨bs, 0, none⟩), .pointer (some ⟨b, 0, none⟩), .slice At t.length ct] W (PutR ok W o t T) := by
 induction N with
 | zero => intro ok T hN; omega
 | succ N ih =>
  intro ok T hN W bs Ao co o hs so b hT hokT hup hfit hn At ct t st hct hft hnt
  cases hT with
  | mk b A0 c0 A1 c1 ts kids ps hokb h0 h1 hc0 hc1 hl hTt hNd hk =>
   have htl : ts.length ≤ 1024 := by
    have := weave_len (kids.map BT.io) ts (io_ts hokT)
    rw [← BT.io_mk] at this
    omega
   by_cases hkid : kids = []
   ·subst hkid
    have hp0 : ps = [] := List.length_eq_zero_iff.1 hl
    subst hp0
    have hus := Up.ts (io_ts hokT) (by rw [← BT.io_mk]; exact hup)
    exact put_leaf W bs Ao co o hs so b A0 c0 A1 c1 ts h0 h1 hc0 hTt hNd (by omega) (fun a ha => hfit a (by rw [BT.io_mk]; exact weave_mem_ts _ _ (io_ts hokT) a ha)) hus At ct t st hct hft (fun h => hnt (by rw [BT.io_mk]; exact weave_mem_ts _ _ (io_ts hokT) t h))
   ·have hnt0 : t ∉ ts := fun h => hnt (by rw [BT.io_mk]; exact weave_mem_ts _ _ (io_ts hokT) t h)
    obtain ⟨hik, hiff⟩ := mem_kid hokT hup hfit hft hnt0 hkid
    have hu2 := Up.kid hokT hup _ hik
    have hlen : kids.length = ts.length + 1 := by
     rcases ((BT.ok_mk ts kids).1 hokT).1 with e | e
     ·exact absurd e hkid
     ·exact e
    refine put_inner W bs Ao co o hs so b A0 c0 A1 c1 ps.length ts kids ps h0 h1 hc0 hc1 hTt hNd (by omega) rfl hl hk hokT hup hfit hn At ct t st hct hft hnt _ rfl (by omega) hik (fun X hX => ?_)
    have hsz : SizeOf.sizeOf (kids[idx o ts t]) < SizeOf.sizeOf (BT.mk ts kids) := by
     have := List.sizeOf_lt_of_mem (List.getElem_mem hik)
     simp only [BT.mk.sizeOf_spec]; omega
    refine ih (ok := fun k => ok k ∧ k < W.heap.size) _ (by omega) X bs Ao co o (pw_cell_below hX.b hs) (hX.sl so) _ ((hk _ hik (by omega)).bound.under hX.b) (((BT.ok_mk ts kids).1 hokT).2 _ (List.getElem_mem _)) hu2.1 (fun a ha => hfit a (hu2.2 a ha)) ?_ At ct t (Kd.F_below (Kd.F_bound st) hX.b) hct hft (fun h => hnt (hu2.2 t h))
    have h2 : (kids[idx o ts t]).io.length ≤ (BT.mk ts kids).io.length := by
     rw [BT.io_mk, weave_at (kids.map BT.io) ts (idx o ts t) (by simp [hlen]) (idx_le _ _ _)]
     have eg : (kids.map BT.io)[idx o ts t]?.getD [] = (kids[idx o ts t]).io := by simp [hik]
     rw [eg]; simp; omega
    omega
structure Kept1 (bs : Nat) (W w' : World) : Prop where
 g : W.grownBy w' (some bs)
theorem Kept1.below {bs : Nat} {W w' : World} (h : Below W.heap.size W w') : Kept1 bs W w' := ⟨h.os, h.tape, h.output, h.size, fun k hk _ => h.block k hk⟩
theorem Kept1.trans {bs : Nat} {W w1 w2 : World} (h : Kept1 bs W w1) (k : Kept1 bs w1 w2) : Kept1 bs W w2 :=
 ⟨k.g.os.trans h.g.os, k.g.tape.trans h.g.tape, k.g.output.trans h.g.output, Nat.le_trans h.g.size k.g.size, fun j hj hn => (k.g.block j (Nat.lt_of_lt_of_le hj h.g.size) hn).trans (h.g.block j hj hn)⟩
theorem Kept1.set (bs : Nat) (w : World) (j : Nat) (v : Value) : Kept1 bs w (w.setCell ⟨bs, j, none⟩ v) :=
 ⟨rfl, rfl, rfl, by simp, fun k _ hk => Below.heap_setCell _ _ _ _ (fun e => hk (by rw [e]))⟩
theorem Kept1.heap {bs : Nat} {W w' : World} (h : Kept1 bs W w') {k : Nat} (hk : k < W.heap.size) (hn : k ≠ bs) : w'.heap[k]? = W.heap[k]? := h.g.block k hk (fun e => hn (Option.some.inj e))
theorem SetAt.mono {ok ok' : Nat → Prop} {W : World} {bs : Nat} {A : Option Addr} {c : Nat} {o : Tp} {rt : Nat} {T : BT} (h : SetAt ok W bs A c o rt T) (hm : ∀ k, ok k → ok' k) (hn : ¬ ok' bs) : SetAt ok' W bs A c o rt T :=
 ⟨h.hp, h.so, Kd.F_mono h.F hm, h.nd.mono hm, h.wf, h.rto, h.fit, h.up, h.le, hn⟩
theorem SetAt.bound {ok : Nat → Prop} {W : World} {bs : Nat} {A : Option Addr} {c : Nat} {o : Tp} {rt : Nat} {T : BT} (h : SetAt ok W bs A c o rt T) : SetAt (fun k => ok k ∧ k < W.heap.size) W bs A c o rt T :=
 ⟨h.hp, h.so, Kd.F_bound h.F, h.nd.bound, h.wf, h.rto, h.fit, h.up, h.le, fun hk => h.nok hk.1⟩
def insAns (o : Tp) (L : List Tp) (t : Tp) : Bool × Nat := if t.length ≠ o.length then (false, 14) else if t ∈ L then (false, 0) else if 1024 ≤ L.length then (false, 18) else (true, 0)
def insTo (o : Tp) (L : List Tp) (t : Tp) : List Tp := if (insAns o L t).1 then insO o t L else L
def InsR (ok : Nat → Prop) (W : World) (bs : Nat) (A : Option Addr) (c : Nat) (o : Tp) (T : BT) (t : Tp) (e : Ending) (w' : World) : Prop :=
 ∃ rt' T', e = .returned (.tuple #[.bool (insAns o T.io t).1, .int .i64 ((insAns o T.io t).2 : Int)]) ∧ SetAt (Plus ok W.heap.size) w' bs A c o rt' T' ∧ T'.io = insTo o T.io t ∧ Kept1 bs W w'
theorem plus_not {ok : Nat → Prop} {bs n : Nat} (h : ¬ ok bs) (hb : bs < n) : ¬ Plus ok n bs := fun hk => hk.elim h (by omega)
set_option maxHeartbeats 2000000 in
set_option maxRecDepth 100000 in
theorem insert_width {ok : Nat → Prop} (W : World) (bs : Nat) {A : Option Addr} {c : Nat} {o : Tp} {rt : Nat} {T : BT} (h : SetAt ok W bs A c o rt T) (At : Option Addr) (ct : Nat) (t : Tp) (hl : t.length ≠ o.length) :
  Calls Tryz.prog 41 #[.pointer (some ⟨bs, 0, none⟩), .slice At t.length ct] W (InsR ok W bs A c o T t) := by
 have h0 := h.c0
 have h1 := h.c1
 have HA := Aside0.mk h
 have ha : Aside0 (insAns o T.io t = (false, 14)) := ⟨by simp [insAns, hl]⟩
 have hd := decide_eq_false hl
 clear h hl
 go_enter Tryz.func41, Tryz.ntmps41
 go_wp2_with (first
  | (go_at_call 64; refine (ok_calls _ bs h0).mono ?_; rintro e w' ⟨rfl, rfl⟩)
  | (go_at_call 65; refine (fits_calls _ bs A c o h0 h1 At ct t).mono ?_; rw [hd]; rintro e w' ⟨rfl, rfl⟩))
 go_ret2
 refine ⟨rt, T, by rw [ha.out]; rfl, HA.out.mono (fun k hk => .inl hk) (plus_not HA.out.nok HA.out.lt), by unfold insTo; rw [ha.out]; rfl, .below (Below.refl _ _)⟩
set_option maxHeartbeats 2000000 in
set_option maxRecDepth 100000 in
theorem insert_not {ok : Nat → Prop} (W : World) (bs : Nat) {A : Option Addr} {c : Nat} {o : Tp} {rt : Nat} {T : BT} (h : SetAt ok W bs A c o rt T) (At : Option Addr) (ct : Nat) (t : Tp) (st : Sl W At ct t) (hl : t.length = o.length) (hn : t ∈ T.io ∨ 1024 ≤ T.io.length) :
  Calls Tryz.prog 41 #[.pointer (some ⟨bs, 0, none⟩), .slice At t.length ct] W (InsR ok W bs A c o T t) := by
 have h0 := h.c0
 have h1 := h.c1
 have h3 := h.c3
 have HC := Aside0.mk (has_calls W bs h At ct t st)
 have HA := Aside0.mk h
 have hd := decide_eq_true hl
 by_cases hm : t ∈ T.io
 ·have ha : Aside0 (insAns o T.io t = (false, 0)) := ⟨by simp [insAns, hl, hm]⟩
  have hd2 := decide_eq_true hm
  rw [hd2] at HC
  clear h hl hm hd2 hn
  go_enter Tryz.func41, Tryz.ntmps41
  go_wp2_with (first
   | (go_at_call 64; refine (ok_calls _ bs h0).mono ?_; rintro e w' ⟨rfl, rfl⟩)
   | (go_at_call 65; refine (fits_calls _ bs A c o h0 h1 At ct t).mono ?_; rw [hd]; rintro e w' ⟨rfl, rfl⟩)
   | (go_at_call 66; refine HC.out.mono ?_; rintro e w' ⟨rfl, hb⟩))
  go_ret2
  refine ⟨rt, T, by rw [ha.out]; rfl, (HA.out.since ⟨hb⟩).mono (fun k hk => .inl hk) (plus_not HA.out.nok HA.out.lt), by unfold insTo; rw [ha.out]; rfl, .below hb⟩
 ·have hn2 : 1024 ≤ T.io.length := hn.resolve_left hm
  have ha : Aside0 (insAns o T.io t = (false, 18)) := ⟨by simp [insAns, hl, hm, hn2]⟩
  have hd2 := decide_eq_false hm
  rw [hd2] at HC
  obtain ⟨n, hnn⟩ : ∃ n, n = T.io.length := ⟨_, rfl⟩
  rw [← hnn] at h3 hn2
  have hn3 : (n : Int) ≥ 1024 := by omega
  clear h hl hm hd2 hn hnn
  go_enter Tryz.func41, Tryz.ntmps41
  go_wp2_with (first
   | (go_at_call 64; refine (ok_calls _ bs h0).mono ?_; rintro e w' ⟨rfl, rfl⟩)
   | (go_at_call 65; refine (fits_calls _ bs A c o h0 h1 At ct t).mono ?_; rw [hd]; rintro e w' ⟨rfl, rfl⟩)
   | (go_at_call 66; refine HC.out.mono ?_; rintro e w' ⟨rfl, hb⟩; have h3w := pw_cell_below hb h3))
  go_ret2
  refine ⟨rt, T, by rw [ha.out]; rfl, (HA.out.since ⟨hb⟩).mono (fun k hk => .inl hk) (plus_not HA.out.nok HA.out.lt), by unfold insTo; rw [ha.out]; rfl, .below hb⟩
theorem plus_l (ok : Nat → Prop) (n : Nat) : ∀ k, ok k → Plus ok n k := fun k hk => .inl hk
theorem plus_r (ok : Nat → Prop) (n : Nat) : ∀ k, n ≤ k → Plus ok n k := fun k hk => .inr hk
theorem set_new {ok : Nat → Prop} {W w' : World} {bs : Nat} {A : Option Addr} {c : Nat} {o : Tp} {rt rt' : Nat} {T T' : BT} {t : Tp} (h : SetAt ok W bs A c o rt T) (hk : Kept1 bs W w') (hp : w'.heap[bs]? = some (.cells #[.bool true, .slice A o.length c, .pointer (some ⟨rt', 0, none⟩), .int .i64 (T'.io.length : Int)] 128 (0, 0)))
  (hN : NodeF (Plus ok W.heap.size) w' rt' T') (hOk : T'.Ok) (hio : T'.io = insO o t T.io) (hft : Fit o t) (hm : t ∉ T.io) (hn : T.io.length < 1024) : SetAt (Plus ok W.heap.size) w' bs A c o rt' T' :=
 ⟨hp, h.so, Kd.F_mono (Kd.F_step h.F fun k hk' hlt => hk.heap hlt (fun e => h.nok (e ▸ hk'))) (plus_l ok _), hN, hOk, h.rto, fun a ha => by
  rw [hio, insO_mem] at ha
  rcases ha with rfl | ha
  ·exact hft
  ·exact h.fit a ha, by rw [hio]; exact insO_up h.up hft h.fit hm, by rw [hio, insO_len]; omega, plus_not h.nok h.lt⟩
theorem root_new {ok : Nat → Prop} {W W4 w6 V : World} {bs l r cm : Nat} {Am : Option Addr} {mid : Tp} {L R : BT} (hs4 : W.heap.size ≤ W4.heap.size) (hb6 : Below W4.heap.size W4 w6) (hEl : El KT w6 (Plus (Plus ok W.heap.size) W4.heap.size) mid (.slice Am mid.length cm)) (hNl : NodeF (Plus (Plus ok W.heap.size) W4.heap.size) w6 l L) (hNr : NodeF (Plus (Plus ok W.heap.size) W4.heap.size) w6 r R) (hpn : ¬ Plus ok W.heap.size bs) (hbs : bs < w6.heap.size)
  (hV : ∀ k, k ≠ bs → V.heap[k]? = (((w6.alloc (.cells #[.slice Am mid.length cm] 23)).alloc (.cells #[.pointer (some ⟨l, 0, none⟩), .pointer (some ⟨r, 0, none⟩)] 126)).alloc (.cells #[.slice (some ⟨w6.heap.size, 0, none⟩) 1 1, .slice (some ⟨w6.heap.size + 1, 0, none⟩) 2 2] 132)).heap[k]?) : NodeF (Plus ok W.heap.size) V (w6.heap.size + 1 + 1) (.mk [mid] [L, R]) := by
 have up : ∀ k, Plus (Plus ok W.heap.size) W4.heap.size k → Plus ok W.heap.size k := fun k hk => hk.elim id fun h => .inr (Nat.le_trans hs4 h)
 have s6 := hb6.size
 obtain ⟨o1, ho1⟩ : ∃ o1, o1 = Obj.cells #[.slice Am mid.length cm] 23 (0, 0) := ⟨_, rfl⟩
 obtain ⟨o2, ho2⟩ : ∃ o2, o2 = Obj.cells #[.pointer (some ⟨l, 0, none⟩), .pointer (some ⟨r, 0, none⟩)] 126 (0, 0) := ⟨_, rfl⟩
 obtain ⟨o3, ho3⟩ : ∃ o3, o3 = Obj.cells #[.slice (some ⟨w6.heap.size, 0, none⟩) 1 1, .slice (some ⟨w6.heap.size + 1, 0, none⟩) 2 2] 132 (0, 0) := ⟨_, rfl⟩
 rw [← ho1, ← ho2, ← ho3] at hV
 have z1 : (w6.alloc o1).heap.size = w6.heap.size + 1 := by simp
 have z2 : ((w6.alloc o1).alloc o2).heap.size = w6.heap.size + 1 + 1 := by simp
 have a1 := below_alloc (Below.refl w6.heap.size w6) o1
 have a2 := below_alloc (Below.refl (w6.alloc o1).heap.size (w6.alloc o1)) o2
 have a3 := below_alloc (Below.refl ((w6.alloc o1).alloc o2).heap.size ((w6.alloc o1).alloc o2)) o3
 have h1 : V.heap[w6.heap.size]? = some o1 := by rw [hV _ (by omega)]; exact blk a3 (blk a2 (heap_alloc_new w6 o1))
 have h2 : V.heap[w6.heap.size + 1]? = some o2 := by rw [hV _ (by omega), ← z1]; exact blk a3 (heap_alloc_new (w6.alloc o1) o2)
 have h3 : V.heap[w6.heap.size + 1 + 1]? = some o3 := by rw [hV _ (by omega), ← z2]; exact heap_alloc_new ((w6.alloc o1).alloc o2) o3
 have hk : ∀ k, k ≠ bs → k < w6.heap.size → V.heap[k]? = w6.heap[k]? := fun k hk hlt => by
  rw [hV k hk, a3.block k (by omega), a2.block k (by omega), a1.block k hlt]
 have hfp : ∀ k, Plus (Plus ok W.heap.size) W4.heap.size k → k < w6.heap.size → V.heap[k]? = w6.heap[k]? := fun k hk' hlt => hk k (fun e => hpn (e ▸ up k hk')) hlt
 subst ho1 ho2 ho3
 have w2 : Kd.F KT V (Plus ok W.heap.size) (some ⟨w6.heap.size, 0, none⟩) 1 [mid] := by
  obtain ⟨A, c, e, hle, hF⟩ := rows_in (d := KT) (W := V) (ok := Plus ok W.heap.size) (base := 0) (e := 23) (v := .slice (some ⟨w6.heap.size, 0, none⟩) 1 1) (n := 1) (xs := [mid]) (us := [.slice Am mid.length cm]) rfl ⟨rfl, .inr ⟨_, 1, _, rfl, Nat.zero_le _, h1, Nat.le_refl _, by unfold maxLen; omega, rfl, rfl⟩⟩ (.cons ((hEl.step hfp).mono up) .nil) rfl
  injection e with e1 e2 e3
  subst e1
  refine Kd.F_mono hF fun k hk => hk.elim id fun hk => .inr ?_
  have : k = w6.heap.size := by simpa [Value.ownBlock] using hk
  omega
 have w3 : Kd.F KN V (Plus ok W.heap.size) (some ⟨w6.heap.size + 1, 0, none⟩) 2 [l, r] := by
  obtain ⟨A, c, e, hle, hF⟩ := rows_in (d := KN) (W := V) (ok := Plus ok W.heap.size) (base := 0) (e := 126) (v := .slice (some ⟨w6.heap.size + 1, 0, none⟩) 2 2) (n := 2) (xs := [l, r]) (us := [.pointer (some ⟨l, 0, none⟩), .pointer (some ⟨r, 0, none⟩)]) rfl ⟨rfl, .inr ⟨_, 2, _, rfl, Nat.zero_le _, h2, Nat.le_refl _, by unfold maxLen; omega, rfl, rfl⟩⟩ (.cons (nod_el l) (.cons (nod_el r) .nil)) rfl
  injection e with e1 e2 e3
  subst e1
  refine Kd.F_mono hF fun k hk => hk.elim id fun hk => .inr ?_
  have : k = w6.heap.size + 1 := by simpa [Value.ownBlock] using hk
  omega
 have hE : Els (NodeF (Plus ok W.heap.size) V) [l, r] [L, R] := .cons ((hNl.step hfp).mono up) (.cons ((hNr.step hfp).mono up) .nil)
 exact .mk _ (some ⟨w6.heap.size, 0, none⟩) 1 (some ⟨w6.heap.size + 1, 0, none⟩) 2 [mid] [L, R] [l, r] (.inr (by omega)) ((cell_of_heap h3 0).trans rfl) ((cell_of_heap h3 1).trans rfl) (Nat.le_refl _) (Nat.le_refl _) rfl w2 w3 (fun j h1 h2 => hE.get j h2 h1)
set_option maxHeartbeats 4000000 in
set_option maxRecDepth 100000 in
theorem insert_put {ok : Nat → Prop} (W : World) (bs : Nat) {A : Option Addr} {c : Nat} {o : Tp} {rt : Nat} {T : BT} (h : SetAt ok W bs A c o rt T) (At : Option Addr) (ct : Nat) (t : Tp) (st : Sl W At ct t) (hl : t.length = o.length) (hm : t ∉ T.io) (hn : T.io.length < 1024) (htl : t.length ≤ 1000000) :
    Calls Tryz.prog 41 #[.pointer (some ⟨bs, 0, none⟩), .slice At t.length ct] W (InsR ok W bs A c o T t) := by
  have h0 := h.c0
  have h1 := h.c1
  have h2 := h.c2
  have h3 := h.c3
  have HC := Aside0.mk (has_calls W bs h At ct t st)
  have HA := Aside0.mk h
  have hd := decide_eq_true hl
  have hft : Fit o t := ⟨hl, h.rto⟩
  have ha : Aside0 (insAns o T.io t = (true, 0)) := ⟨by simp [insAns, hl, hm, show ¬ 1024 ≤ T.io.length by omega]⟩
  have hd2 := decide_eq_false hm
  rw [hd2] at HC
  obtain ⟨n, hnn⟩ : ∃ n, n = T.io.length := ⟨_, rfl⟩
  rw [← hnn] at h3 hn
  have hn3 : ¬ (n : Int) ≥ 1024 := by omega
  have hn4 : (n : Int) < 1024 := by omega
  have hw1 : IntKind.i64.wrap ((n : Int) + 1) = (n : Int) + 1 := by rw [IntKind.wrap_i64]; omega
  have HP := Aside0.mk (show ∀ (X : World) (fp : Nat → Prop), (∀ k, ok k → fp k) → Since W X → ∀ A' c', t.length ≤ c' → Kd.F (Kd.int .i64) X fp A' t.length t → Calls Tryz.prog 67 #[.pointer (some ⟨bs, 0, none⟩), .pointer (some ⟨rt, 0, none⟩), .slice A' t.length c'] X (PutR fp X o t T) from
    fun X fp hfp hX A' c' hc' hF => put_calls _ T (Nat.lt_succ_self _) X bs A c o (pw_cell_below hX.b h1) (hX.sl h.sl) rt ((h.nd.under hX.b).mono hfp) h.wf h.up h.fit (by omega) A' c' t hF hc' hft hm)
  have HNN := Aside0.mk hnn
  have HN := Aside0.mk hn
  have HM := Aside0.mk hm
  have HFT := Aside0.mk hft
  have HTL := Aside0.mk htl
  have HST := Aside0.mk st
  have HLT := Aside0.mk h.lt
  have HKP := Aside0.mk (show ∀ w', Since W w' → w'.cell? ⟨bs, 2, none⟩ = some (.pointer (some ⟨rt, 0, none⟩)) ∧ Since W w' from fun w' hs => ⟨pw_cell_below hs.b h2, hs⟩)
  clear h hl hm hd2 hnn hft st htl h2
  go_enter Tryz.func41, Tryz.ntmps41
  go_wp2_with (first
    | (go_at_call 64; refine (ok_calls _ bs h0).mono ?_; rintro e w' ⟨rfl, rfl⟩)
    | (go_at_call 65; refine (fits_calls _ bs A c o h0 h1 At ct t).mono ?_; rw [hd]; rintro e w' ⟨rfl, rfl⟩)
    | (go_at_call 66; refine HC.out.mono ?_; rintro e w1 ⟨rfl, hb⟩; have h3w := pw_cell_below hb h3))
  have hS1 := (Since.mk hb).drew
  have h2d := (HKP.out _ hS1).1
  have HB := Aside0.mk hb
  have hp1 := Aside0.mk (blk hb HA.out.hp)
  clear hb
  go_region_with (first
    | (go_at_call 44; ((with_reducible refine (cloneI_calls _ At ct t ?s1 HTL.out).mono ?_)); (case s1 => exact hS1.sl HST.out); rintro e w2 ⟨A2, c2, rfl, hc2, hF2, hb2⟩; have h2w := pw_cell_below hb2 h2d)
    | (go_at_call 67; ((with_reducible refine (HP.out w2 (Plus ok w1.drew.heap.size) (plus_l ok _) (hS1.step hb2) A2 c2 hc2 (Kd.F_mono hF2 (plus_r ok _))).mono ?_)); rintro e w3 ⟨rt', T', rfl, hb3, hNd, hOk, hIo⟩; have h2x := pw_cell_below hb3 h2w; have f2x := free_of_heap (blk hb3 (blk hb2 hp1.out)) 2))
  all_goals (
    have s1 : W.heap.size ≤ w1.drew.heap.size := hS1.b.size
    have s2 : W.heap.size ≤ w2.heap.size := (hS1.step hb2).b.size
    have hNd' : NodeF (Plus ok W.heap.size) w3 rt' T' := hNd.mono fun k hk => by
      rcases hk with (hk | hk) | hk
      · exact .inl hk
      · exact .inr (Nat.le_trans s1 hk)
      · exact .inr (Nat.le_trans s2 hk)
    have hpn := plus_not HA.out.nok HA.out.lt
    obtain ⟨W4, hW4⟩ : ∃ W4, W4 = w3.setCell ⟨bs, 2, none⟩ (.pointer (some ⟨rt', 0, none⟩)) := ⟨_, rfl⟩
    have hp4 := heap_setCell_same w3 bs 2 _ _ (.pointer (some ⟨rt', 0, none⟩)) (blk hb3 (blk hb2 hp1.out))
    have hk4 : Kept1 bs W W4 := by rw [hW4]; exact (Kept1.below ((hS1.step hb2).step hb3).b).trans (Kept1.set _ _ _ _)
    have hN4 : NodeF (Plus ok W.heap.size) W4 rt' T' := by rw [hW4]; exact hNd'.step fun k hk _ => Below.heap_setCell _ _ _ _ (fun e : k = bs => hpn (e ▸ hk))
    rw [← hW4] at hp4
    rw [← hW4]
    have hlen : T'.io.length ≤ 1024 := by have := HN.out; rw [hIo, insO_len, ← HNN.out]; omega
    obtain ⟨ts', kids', n', A0', c0', hKe, hn', hk5⟩ := node_top hN4
    have hn2 : n' ≤ 1024 := by
      subst hKe
      have := weave_len (kids'.map BT.io) ts' (io_ts hOk)
      rw [← BT.io_mk] at this
      omega
    rw [← HNN.out] at hp4
    replace hp4 : W4.heap[bs]? = some (.cells #[.bool true, .slice A o.length c, .pointer (some ⟨rt', 0, none⟩), .int .i64 (n : Int)] 128 (0, 0)) := by simpa using hp4
    have HSP := Aside0.mk (show 15 < n' → ∃ mid L R, ((BT.mk [mid] [L, R]).Ok ∧ (BT.mk [mid] [L, R]).io = insO o t T.io) ∧ Calls Tryz.prog 68 #[.pointer (some ⟨rt', 0, none⟩)] W4 (SplF (Plus ok W.heap.size) W4 mid L R) from fun hbig => by
      subst hKe
      have hpu := root_io ts' kids' hOk (ts'.length / 2) (by omega)
      rw [hIo] at hpu
      exact ⟨_, _, _, hpu, split_spl hN4 hOk (by omega) (by omega)⟩)
    have HP4 := Aside0.mk hp4
    have HK4 := Aside0.mk hk4
    have HN4 := Aside0.mk hN4
    have HPN := Aside0.mk hpn
    have HIO := Aside0.mk hIo
    have HOK := Aside0.mk hOk
    have r0 := (cell_of_heap hp4 2).trans rfl
    have r1 := (cell_of_heap hp4 3).trans rfl
    have r2 := free_of_heap hp4 2
    have r3 := free_of_heap hp4 3
    clear h2d h2w h2x f2x hNd hNd' hW4 hb3 hb2 hF2 hS1 hp4 hk4 hN4 hpn hIo hOk hKe hn' h0 h1 h3 h3w s1 s2 hlen)
  all_goals by_cases hbig : 15 < n'
  all_goals first
    | (have hb2 : ¬ (n' : Int) > 15 := by omega
       have HB2 := Aside0.mk hbig
       clear hbig
       go_wp2
       go_ret2
       have hp5 := heap_setCell_same W4 bs 3 _ _ (.int .i64 ((n : Int) + 1)) HP4.out
       have hk5 : Kept1 bs W (W4.setCell ⟨bs, 3, none⟩ (.int .i64 ((n : Int) + 1))) := HK4.out.trans (Kept1.set _ _ _ _)
       refine ⟨rt', T', by rw [ha.out]; rfl, ?_, by unfold insTo; rw [ha.out]; exact HIO.out, hk5⟩
       exact set_new HA.out hk5 (by rw [HIO.out, insO_len, ← HNN.out]; simpa using hp5) (HN4.out.step fun k hk _ => Below.heap_setCell _ _ _ _ (fun e : k = bs => HPN.out (e ▸ hk))) HOK.out HIO.out HFT.out HM.out (by rw [← HNN.out]; exact HN.out))
    | (have hb2 : (n' : Int) > 15 := by omega
       go_wp2_with (first
        | (go_at_call 68; obtain ⟨mid, L, R, hpure, hcalls⟩ := HSP.out (by omega); ((with_reducible refine hcalls.mono ?_)); rintro e w6 ⟨l, r, Am, cm, rfl, hb6, hEl, hNl, hNr⟩;
           have hz := blk (below_alloc (Below.refl _ _) (.cells #[.slice (some ⟨w6.heap.size, 0, none⟩) 1 1, .slice (some ⟨w6.heap.size + 1, 0, none⟩) 2 2] 132)) (blk (below_alloc (Below.refl _ _) (.cells #[.pointer (some ⟨l, 0, none⟩), .pointer (some ⟨r, 0, none⟩)] 126)) (blk (below_alloc (Below.refl _ _) (.cells #[.slice Am mid.length cm] 23)) (blk hb6 HP4.out)));
           have z0 := (cell_of_heap hz 2).trans rfl; have z1 := (cell_of_heap hz 3).trans rfl; have z2 := free_of_heap hz 2; have z3 := free_of_heap hz 3; have HZ := Aside0.mk hz; have HPU := Aside0.mk hpure; have HEL := Aside0.mk hEl; have HNL := Aside0.mk hNl; have HNR := Aside0.mk hNr; have HB6 := Aside0.mk hb6; clear hz hpure hcalls hb6 hEl hNl hNr))
       go_ret2
       have hs4 := HK4.out.g.size
       have hlt := HLT.out
       have hs6 := HB6.out.size
       obtain ⟨Z, hZ⟩ : ∃ Z, Z = ((w6.alloc (.cells #[.slice Am mid.length cm] 23)).alloc (.cells #[.pointer (some ⟨l, 0, none⟩), .pointer (some ⟨r, 0, none⟩)] 126)).alloc (.cells #[.slice (some ⟨w6.heap.size, 0, none⟩) 1 1, .slice (some ⟨w6.heap.size + 1, 0, none⟩) 2 2] 132) := ⟨_, rfl⟩
       have hkZ : Kept1 bs W Z := by rw [hZ]; exact HK4.out.trans (.below ((((Since.mk HB6.out).alloc _).alloc _).alloc _).b)
       have hp := HZ.out
       rw [← hZ] at hp
       have hroot := root_new (V := (Z.setCell ⟨bs, 2, none⟩ (.pointer (some ⟨w6.heap.size + 1 + 1, 0, none⟩))).setCell ⟨bs, 3, none⟩ (.int .i64 ((n : Int) + 1))) hs4 HB6.out HEL.out HNL.out HNR.out HPN.out (by omega) (fun k hk => by rw [Below.heap_setCell _ _ _ _ hk, Below.heap_setCell _ _ _ _ hk, hZ])
       rw [← hZ]
       have hp5 := heap_setCell_same _ bs 3 _ _ (.int .i64 ((n : Int) + 1)) (heap_setCell_same Z bs 2 _ _ (.pointer (some ⟨w6.heap.size + 1 + 1, 0, none⟩)) hp)
       have hk5 := (hkZ.trans (Kept1.set bs Z 2 (.pointer (some ⟨w6.heap.size + 1 + 1, 0, none⟩)))).trans (Kept1.set bs _ 3 (.int .i64 ((n : Int) + 1)))
       refine ⟨w6.heap.size + 1 + 1, BT.mk [mid] [L, R], by rw [ha.out]; rfl, ?_, by unfold insTo; rw [ha.out]; exact HPU.out.2, hk5⟩
       exact set_new HA.out hk5 (by rw [HPU.out.2, insO_len, ← HNN.out]; simpa using hp5) hroot HPU.out.1 HPU.out.2 HFT.out HM.out (by rw [← HNN.out]; exact HN.out))
theorem insert_calls {ok : Nat → Prop} (W : World) (bs : Nat) {A : Option Addr} {c : Nat} {o : Tp} {rt : Nat} {T : BT} (h : SetAt ok W bs A c o rt T) (At : Option Addr) (ct : Nat) (t : Tp) (st : Sl W At ct t) (hol : o.length ≤ 1000000) :
  Calls Tryz.prog 41 #[.pointer (some ⟨bs, 0, none⟩), .slice At t.length ct] W (InsR ok W bs A c o T t) := by
 by_cases hl : t.length = o.length
 ·by_cases hm : t ∈ T.io
  ·exact insert_not W bs h At ct t st hl (.inl hm)
  ·by_cases hn : 1024 ≤ T.io.length
   ·exact insert_not W bs h At ct t st hl (.inr hn)
   ·exact insert_put W bs h At ct t st hl hm (by omega) (by omega)
 ·exact insert_width W bs h At ct t hl
end Go.Proofs.YtcmllllbmgcnlaaGreat.Tup
end
