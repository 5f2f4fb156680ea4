/- Own texts, joined and cut to what the claim stands on: RlNew, RlOpen, RlSeq, RlCmp, RlRound. -/
import Derived.ProofKit
import Derived.Laws.Cover2
import Derived.OpenShut
import Derived.ChangeOld
import Derived.Lib.SmallJoins
import Derived.Laws.IdiomArrays
import Derived.Deep.Slices
import Derived.SizedLaws
import Derived.ChangeSlices
import Derived.Deep.RegionHeld3
import Derived.OrdersIn
import Derived.Test.YtcmllllbmgcnlaaGreatK20
import Derived.Test.YtcmllllbmgcnlaaGreatK26
import Derived.Test.YtcmllllbmgcnlaaGreatK19
import Derived.Test.YtcmllllbmgcnlaaGreatK18
section
namespace Go.Proofs.YtcmllllbmgcnlaaGreat.Rl
open Go.RowKit Go.Lib Go.Deep Go.Proofs.YtcmllllbmgcnlaaGreat.G Go.Proofs.YtcmllllbmgcnlaaGreat.Tup Go.Proofs.YtcmllllbmgcnlaaGreatW.PrintWords Go.Proofs.YtcmllllbmgcnlaaGreatW.PrintLast Go.Proofs.YtcmllllbmgcnlaaGreatW.PrintMore
open Go.Proofs.YtcmllllbmgcnlaaGreat.Ch (rwrongS OrdersR orders_calls Rw Ow ordOf ChainsOk)
set_option linter.unusedVariables false
set_option linter.unusedSimpArgs false
set_option maxHeartbeats 4000000 in
set_option maxRecDepth 100000 in
theorem rnew_no (W : World) (width : Int) (A : Option Addr) (c : Nat) (l : List Int) (h : Sl W A c l) (h0 : rwrongS width l ≠ 0) :
    Calls Tryz.prog 11 #[.int .i64 width, .slice A l.length c] W fun e w' => e = .returned (.tuple #[.pointer none, .int .i64 (rwrongS width l)]) ∧ Below W.heap.size W w' := by
  have hO := orders_calls width A c l W h
  obtain ⟨z, hz⟩ : ∃ z, z = rwrongS width l := ⟨_, rfl⟩
  rw [← hz] at h0 ⊢
  have hzd : (z == 0) = false := by simpa using h0
  have HZ := Aside0.mk (And.intro hz h0)
  clear h hz h0
  go_enter Tryz.func11, Tryz.ntmps11
  go_wp2_with (go_at_call 35; refine hO.mono ?_; clear hO; rintro e w1 ⟨v, y, rfl, hy, hb1, hor⟩; obtain rfl : y = z := hy.trans HZ.out.1.symm; obtain rfl : v = .slice none 0 0 := (hor.resolve_right fun h => HZ.out.2 h.1).2; have HB1 := Aside0.mk hb1; clear hb1 hor hy)
  go_ret2
  exact ⟨rfl, HB1.out⟩
theorem el_own {W : World} {base : Nat} {v : Value} {t : Tp} (h : Ow W base v t) : El KT W (fun k => base ≤ k ∧ k < W.heap.size) t v := by
  obtain ⟨A', c', e, hle, hF⟩ := rows_in (d := Kd.int .i64) (ok := fun _ => False) rfl h (Els.of (by simp) fun i hi hu => by rw [List.getElem_map]; exact fun W' _ => rfl) rfl
  subst e
  exact tup_el hle (Kd.F_mono hF fun k hk => hk.elim False.elim fun hk => ⟨own_ge h k hk, Tup.own_lt h k hk⟩)
theorem el_plain {W : World} {g n : Nat} (h : W.rowIs g 3 n (fun i => .int .i64 (i : Int))) (hn : n ≤ 1000) : El KT W (fun k => k = g) (plainO n) (.slice (some ⟨g, 0, none⟩) n n) := by
  obtain ⟨cs, hg, hs, hi⟩ := h
  have : Ow W 0 (.slice (some ⟨g, 0, none⟩) n n) (plainO n) := by
    refine ⟨by simp [plainO], .inr ⟨g, n, cs, by rw [plainO_len], Nat.zero_le _, hg, by rw [plainO_len]; exact Nat.le_refl _, by unfold maxLen; omega, by omega, ?_⟩⟩
    rw [plainO_len, Nat.mul_one]
    refine List.ext_getElem (by simp [plainO, hs]) fun i h1 h2 => ?_
    have hi' : i < n := by simp [plainO] at h2; exact h2
    have := hi i hi'
    rw [← Array.getElem?_toList] at this
    have h3 := (List.getElem?_eq_some_iff.1 this).2
    simp [plainO, h3]
  obtain ⟨A', c', e, hle, hF⟩ := rows_in (d := Kd.int .i64) (ok := fun _ => False) rfl this (Els.of (by simp) fun i hi hu => by rw [List.getElem_map]; exact fun W' _ => rfl) rfl
  rw [plainO_len] at e
  injection e with e1 e2 e3
  subst e1 e3
  have := tup_el hle hF
  rw [plainO_len] at this
  exact this.mono fun k hk => hk.elim False.elim fun hk => by simpa [Value.ownBlock] using hk
theorem infoT : (Tryz.prog.info? 23).map (fun i => (i.zero, i.size, i.bytes)) = some (some (.slice none 0 0), 1, 24) := by kernel_rfl
theorem least_pos {l : List Int} {n : Nat} (h : Go.Proofs.YtcmllllbmgcnlaaGreat.Ch.LeastIs l n) : 0 < n := by
  obtain ⟨u, m, _, _, _, rfl⟩ := h
  omega
def MadeR (W : World) (width : Int) (e : Ending) (w' : World) : Prop :=
  ∃ br wd os m bss, width = (wd : Nat) ∧ e = .returned (.tuple #[.pointer (some ⟨br, 0, none⟩), .int .i64 0]) ∧ Below W.heap.size W w' ∧ W.heap.size ≤ br ∧ W.heap.size ≤ m ∧ (∀ b ∈ bss, W.heap.size ≤ b) ∧ RelAt (fun k => W.heap.size ≤ k ∧ k ≠ br ∧ k ≠ m ∧ k ∉ bss) w' br wd os [] m bss
theorem orders_os {wd : Nat} {l : List Int} {rows : List (List Int)} (h8 : wd ≤ 8) (hy : Go.Proofs.YtcmllllbmgcnlaaGreat.Ch.wrongS wd l = 0) (h : ChainsOk l rows) (hr : rows.length ≤ 257) : OsOk wd (plainO wd :: rows.map (ordOf wd)) := by
  obtain ⟨_, h2⟩ := Go.Proofs.YtcmllllbmgcnlaaGreat.Ch.good_wrong h8 hy
  have hs := Go.Proofs.YtcmllllbmgcnlaaGreat.Ch.orders_serve h8 h2 h
  refine ⟨h8, by simp; omega, rfl, fun o ho => ?_⟩
  rcases List.mem_cons.1 ho with rfl | ho
  · exact ⟨plainO_rt h8, plainO_len wd⟩
  · have := hs.2.1 o ho
    exact ⟨this.2, this.1⟩
theorem orders_row {W w1 w2 wa w3 : World} {wd : Nat} {v : Value} {ovs : List Value} {rows : List (List Int)} {g' cap' n : Nat} (h8 : wd ≤ 8) (hRw : Rw w1 W.heap.size v ovs rows) (hb1 : Below W.heap.size W w1) (hb2 : Below w1.heap.size w1 w2) (hp : w2.rowIs w1.heap.size 3 wd (fun i => .int .i64 (i : Int))) (hwa : wa = w2.alloc (.cells #[.slice (some ⟨w1.heap.size, 0, none⟩) wd wd] 23)) (hg : wa.grownBy w3 (some w2.heap.size))
    (ho : w3.ownsRow w2.heap.size 23 1 (.slice (some ⟨g', 0, none⟩) n cap') n ([.slice (some ⟨w1.heap.size, 0, none⟩) wd wd] ++ ovs)) (hn : n = 1 + rows.length) :
    n ≤ cap' ∧ Kd.F KT w3 (fun k => W.heap.size ≤ k ∧ k < w3.heap.size) (some ⟨g', 0, none⟩) n (plainO wd :: rows) := by
  have hs1 := hb1.size
  have hs2 := hb2.size
  have hsa : wa.heap.size = w2.heap.size + 1 := by rw [hwa]; simp
  have hs3 := hg.size
  have hk : ∀ k, k < w2.heap.size → w3.heap[k]? = w2.heap[k]? := fun k hk => by
    rw [hg.block k (by omega) (fun e => by injection e with e; omega), hwa, Below.heap_alloc _ _ _ hk]
  obtain ⟨cs, hp1, hp2, hp3⟩ := hp
  have hpl : w1.heap.size < w2.heap.size := (Array.getElem?_eq_some_iff.1 hp1).1
  have hE : Els (El KT w3 (fun k => W.heap.size ≤ k ∧ k < w3.heap.size)) (plainO wd :: rows) ([.slice (some ⟨w1.heap.size, 0, none⟩) wd wd] ++ ovs) := by
    refine .cons ((el_plain (g := w1.heap.size) ⟨cs, (hk _ hpl).trans hp1, hp2, hp3⟩ (by omega)).mono fun k e => ⟨by omega, by omega⟩) ?_
    show Els _ rows ovs
    refine Els.of hRw.len fun i hi hu => ?_
    exact ((el_own (hRw.els i hu hi)).step (W1 := w3) fun k hk' hlt => (hk k (by omega)).trans (hb2.block k hlt)).mono fun k hk' => ⟨hk'.1, by omega⟩
  obtain ⟨A', c', e, hle, hF⟩ := rows_in rfl ho hE (by simp [hn]; omega)
  injection e with e1 e2 e3
  subst e1 e3
  have hl : (plainO wd :: rows).length = n := by simp [hn]; omega
  rw [hl] at hle hF
  exact ⟨hle, Kd.F_mono hF fun k hk => hk.elim id fun hk => ⟨by have := own_ge ho k hk; omega, Tup.own_lt ho k hk⟩⟩
theorem rw_slice {w : World} {base : Nat} {v : Value} {ovs : List Value} {rows : List (List Int)} (h : Rw w base v ovs rows) (hp : 0 < rows.length) : ∃ g c, v = .slice (some ⟨g, 0, none⟩) rows.length c ∧ ovs.length = rows.length ∧ (∀ w', Below w.heap.size w w' → ∀ j u, ovs[j]? = some u → w'.cell? ((⟨g, 0, none⟩ : Addr).add j) = some u) ∧ ∀ u ∈ ovs, u.oneCell' = true := by
  have hlen := h.len
  have ho := h.own
  rcases ho.2 with ⟨_, h0⟩ | ⟨g, cap, cur, rfl, hbg, hg, _⟩
  · omega
  · refine ⟨g, cap, by rw [hlen], hlen, fun w' hb j u hj => ?_, fun u hu => ?_⟩
    · obtain ⟨hjl, rfl⟩ := List.getElem?_eq_some_iff.1 hj
      have := ho.cellAt j (by omega)
      rw [Addr.add_lit, Nat.zero_add]
      exact pw_cell_below hb (this.trans (List.getElem?_eq_getElem _))
    · obtain ⟨r, hr⟩ := h.mem u hu
      obtain ⟨A', c', e, _⟩ := Go.Proofs.YtcmllllbmgcnlaaGreat.Ch.ow_slice hr
      rw [e]; rfl
theorem wrong_of {wd : Nat} (h8 : wd ≤ 8) {l : List Int} (h : rwrongS (wd : Int) l = 0) : Go.Proofs.YtcmllllbmgcnlaaGreat.Ch.wrongS wd l = 0 := by
  unfold Go.Proofs.YtcmllllbmgcnlaaGreat.Ch.rwrongS at h
  rw [if_neg (by omega)] at h
  exact h
def OrdF (W w1 : World) (l : List Int) (wd g rn cv : Nat) (ovs : List Value) (rows : List (List Int)) : Prop :=
  ChainsOk l rows ∧ Rw w1 W.heap.size (.slice (some ⟨g, 0, none⟩) rn cv) ovs (rows.map (ordOf wd)) ∧ rows.length ≤ 257 ∧ ovs.length = rn ∧ (∀ w', Below w1.heap.size w1 w' → ∀ j u, ovs[j]? = some u → w'.cell? ((⟨g, 0, none⟩ : Addr).add j) = some u) ∧ (∀ u ∈ ovs, u.oneCell' = true) ∧ rn = rows.length
theorem orders_yes (W : World) (width : Int) (A : Option Addr) (c : Nat) (l : List Int) (h : Sl W A c l) (h0 : rwrongS width l = 0) :
    Calls Tryz.prog 35 #[.int .i64 width, .slice A l.length c] W fun e w1 => ∃ wd g rn cv ovs rows, width = (wd : Nat) ∧ wd ≤ 8 ∧ e = .returned (.tuple #[.slice (some ⟨g, 0, none⟩) rn cv, .int .i64 0]) ∧ Below W.heap.size W w1 ∧ rn ≤ 257 ∧ OrdF W w1 l wd g rn cv ovs rows := by
  refine (orders_calls width A c l W h).mono ?_
  rintro e w1 ⟨v, y, rfl, hy, hb1, hor⟩
  rw [h0] at hy
  subst hy
  obtain ⟨wd, ovs, rows, rfl, h8, hch, hrw, h257⟩ := (hor.resolve_left (fun h => h.1 rfl)).2
  obtain ⟨g, cv, rfl, hol, hcl, h1c⟩ := rw_slice hrw (by rw [List.length_map]; exact least_pos hch.least)
  rw [List.length_map] at hrw hol ⊢
  exact ⟨wd, g, rows.length, cv, ovs, rows, rfl, h8, rfl, hb1, h257, hch, hrw, h257, hol, hcl, h1c, rfl⟩
set_option maxHeartbeats 8000000 in
set_option maxRecDepth 100000 in
theorem rnew_yes (W : World) (width : Int) (A : Option Addr) (c : Nat) (l : List Int) (h : Sl W A c l) (h0 : rwrongS width l = 0) :
    Calls Tryz.prog 11 #[.int .i64 width, .slice A l.length c] W (MadeR W width) := by
  have hO := orders_yes W width A c l h h0
  have HZ := Aside0.mk h0
  obtain ⟨i0, hi0, hz0, hz1, hz2⟩ := info_parts infoT
  have HI := Aside0.mk (And.intro hi0 (And.intro hz0 (And.intro hz1 hz2)))
  clear h h0 hi0 hz0 hz1 hz2
  go_enter Tryz.func11, Tryz.ntmps11
  go_wp2_with (first
    | (go_at_call 35; go_loud (refine hO.mono ?_; clear hO; rintro e w1 ⟨wd, g, rn, cv, ovs, rows, rfl, h8, rfl, hb1, hrn2, hch⟩; have HB1 := Aside0.mk hb1; have HCH := Aside0.mk hch; have HPl := Aside0.mk (plain_calls w1 wd (by omega)); clear hb1 hch))
    | (go_at_call 36; refine HPl.out.mono ?_; rintro e w2 ⟨rfl, hb2, hp2⟩; have HB2 := Aside0.mk hb2; have HP2 := Aside0.mk hp2; clear hb2 hp2)
    | (at_builtin; go_loud (refine wpList_append_own_at _ rfl _ _ 44 rfl w2.heap.size 23 i0 (.slice none 0 0) 1 24 Tryz.underlying44 HI.out.1 HI.out.2.1 HI.out.2.2.1 HI.out.2.2.2 rfl (by decide) (.slice (some ⟨w2.heap.size, 0, none⟩) 1 1) 1 [.slice (some ⟨w1.heap.size, 0, none⟩) wd wd] rfl ⟨rfl, .inr ⟨w2.heap.size, 1, #[.slice (some ⟨w1.heap.size, 0, none⟩) wd wd], rfl, Nat.le_refl _, heap_alloc_new _ _, Nat.le_refl _, by decide, rfl, rfl⟩⟩ ⟨g, 0, none⟩ rn cv ovs rfl (by rw [Nat.mul_one]; exact HCH.out.2.2.2.1) (HCH.out.2.2.2.2.1 _ ((Since.mk HB2.out).alloc _).b) HCH.out.2.2.2.2.2.1 (by unfold maxLen; omega) (by omega) (by simp) ?_; intro v' w3 hown3 hg3 _ _; rw [Nat.add_comm 1 rn] at hown3; obtain ⟨g', cap', rfl⟩ := ownsRow_succ hown3; have HG3 := Aside0.mk hg3; have HO3 := Aside0.mk (orders_row h8 HCH.out.2.1 HB1.out HB2.out HP2.out rfl hg3 hown3 (by rw [List.length_map, ← HCH.out.2.2.2.2.2.2]; omega)); clear hown3 hg3))
    | (go_at_call 37; go_loud (have hW1 := HB1.out.size; have hW2 := HB2.out.size; have hW3 := HG3.out.size; refine (begin_calls (okO := fun k => W.heap.size ≤ k ∧ k < w3.heap.size) (os := plainO wd :: rows.map (ordOf wd)) (wd := wd) (Ao := some ⟨g', 0, none⟩) (co := cap') (by rw [show (plainO wd :: rows.map (ordOf wd)).length = rn + 1 from by simp [HCH.out.2.2.2.2.2.2]]; exact heap_alloc_new w3 _) (orders_os h8 (Go.Proofs.YtcmllllbmgcnlaaGreat.Rl.wrong_of h8 HZ.out) HCH.out.1 HCH.out.2.2.1) (by rw [show (plainO wd :: rows.map (ordOf wd)).length = rn + 1 from by simp [HCH.out.2.2.2.2.2.2]]; exact Kd.F_below HO3.out.2 (below_alloc (Below.refl _ _) _)) (by rw [show (plainO wd :: rows.map (ordOf wd)).length = rn + 1 from by simp [HCH.out.2.2.2.2.2.2]]; exact HO3.out.1) (fun h => by omega)).mono ?_; rintro e w5 ⟨rfl, hk5, m, bss, hm5, hb5, hR5⟩; have HR5 := Aside0.mk (And.intro hk5 (And.intro hm5 (And.intro hb5 hR5))); clear hk5 hm5 hb5 hR5)))
  go_ret2
  have hW1 := HB1.out.size
  have hW2 := HB2.out.size
  have hW3 := HG3.out.size
  simp at hW3
  obtain ⟨hk5, hm5, hb5, hR5⟩ := HR5.out
  have hsz : (w3.alloc (.cells #[.bool true, .int .i64 (wd : Int), .slice (some ⟨g', 0, none⟩) (rn + 1) cap', .slice none 0 0, .map none] 74)).heap.size = w3.heap.size + 1 := by simp
  have hb3 : Below W.heap.size W (w3.alloc (.cells #[.bool true, .int .i64 (wd : Int), .slice (some ⟨g', 0, none⟩) (rn + 1) cap', .slice none 0 0, .map none] 74)) := by
    have b2 := below_then HB1.out hW1 HB2.out
    have b3 := below_alloc b2 (.cells #[.slice (some ⟨w1.heap.size, 0, none⟩) wd wd] 23)
    exact below_alloc (b3.grown HG3.out (by simp; omega) fun j e => by
      have e' : w2.heap.size = j := by simpa [Value.ownBlock] using e
      omega) _
  refine ⟨w3.heap.size, wd, _, m, bss, rfl, rfl, hk5.below_of hb3 (fun k hk e => by omega), by omega, by omega, fun b hb => by have := hb5 b hb; omega, hR5.mono (fun k hk => ?_) (fun h => h.2.1 rfl) (fun h => h.2.2.1 rfl) (fun b hb h => h.2.2.2 hb)⟩
  rcases hk with hk | hk
  · exact ⟨hk.1.1, by have := hk.1.2; omega, by have := hk.1.2; omega, fun h => by have := hb5 k h; have := hk.1.2; omega⟩
  · exact ⟨by omega, by have := hk.1; omega, hk.2.1, hk.2.2⟩
end Go.Proofs.YtcmllllbmgcnlaaGreat.Rl
end
section
namespace Go.Proofs.YtcmllllbmgcnlaaGreat.Rl
open Go.ChangeShapes Go.WideShapes Go.ChangeAt Go.RowKit Go.Joins Go.Proofs.YtcmllllbmgcnlaaGreat.G Go.Proofs.YtcmllllbmgcnlaaGreat.Tup Go.Proofs.YtcmllllbmgcnlaaGreatW Go.Proofs.YtcmllllbmgcnlaaGreatW.PrintWords
set_option linter.unusedVariables false
set_option linter.unusedSimpArgs false
section
variable {H : Type} {enc : TypeId × Value → H} {W : World} {base b0 : Nat} {held : Bool}
set_option maxRecDepth 100000 in
theorem sl_of_trod {fuel : Nat} {a : Option Addr} {len cap : Nat} {y : DataW H × List MemPlace} (hf : DataW.trod enc Tryz.prog W base (fun _ => true) held fuel 23 [.slice a len cap] = some y) :
    ∃ l : List Int, len = l.length ∧ Sl W a cap l ∧ ∀ x ∈ l, (Lit.int .i64 x).wf = true := by
  have row : (a = none ∧ len = 0 ∧ cap = 0 ∧ ([] : List Int) = []) ∨ ∃ zs : List Int, ∃ x, a = some x ∧ len ≤ cap ∧ cap ≤ maxLen ∧ zs.length = cap ∧ (∀ i, i < zs.length → W.cell? (x.add i) = some (.int .i64 (zs.getD i 0))) ∧ ∀ n ∈ zs, (Lit.int .i64 n).wf = true := by
    rcases open_ints Tryz.underlying23 Tryz.underlying3 (by kernel_rfl) hf with ⟨hcs, _⟩ | ⟨x, l, c, zs, hcs, _, hl, hm, hz, _, hcell, hwz⟩
    · simp at hcs
      obtain ⟨rfl, rfl, rfl⟩ := hcs
      exact .inl ⟨rfl, rfl, rfl, rfl⟩
    · simp at hcs
      obtain ⟨rfl, rfl, rfl⟩ := hcs
      exact .inr ⟨zs, _, rfl, hl, hm, by simpa using hz, hcell, hwz⟩
  have row2 : ∃ zs : List Int, (a = none ∧ len = 0 ∧ cap = 0 ∧ zs = []) ∨ ∃ x, a = some x ∧ len ≤ cap ∧ cap ≤ maxLen ∧ zs.length = cap ∧ (∀ i, i < zs.length → W.cell? (x.add i) = some (.int .i64 (zs.getD i 0))) ∧ ∀ n ∈ zs, (Lit.int .i64 n).wf = true := by
    rcases row with h | ⟨zs, h⟩
    · exact ⟨[], .inl h⟩
    · exact ⟨zs, .inr h⟩
  obtain ⟨zs, h⟩ := row2
  obtain ⟨l, e, hr, hm, hw, hc⟩ := ReadsInt.ofRowC h
  subst e
  exact ⟨l, rfl, ⟨Kd.C_of_reads (d := (0 : Int)) (h1 := fun _ => rfl) hr, hc⟩, hw⟩
set_option maxRecDepth 100000 in
theorem open_sl {v : Value} {d : DataW H} {p : List MemPlace} (hv : Value.okWide Tryz.prog W .any b0 23 v) (h : DataW.Trod enc Tryz.prog W base (fun _ => true) held 23 v d p) :
    ∃ A c l, v = .slice A l.length c ∧ Sl W A c l ∧ ∀ x ∈ l, (Lit.int .i64 x).wf = true := by
  obtain ⟨a, len, cap, rfl⟩ := okWide_slice Tryz.underlying23 hv
  obtain ⟨fuel, hf⟩ := h
  obtain ⟨l, rfl, hs, hw⟩ := sl_of_trod hf
  exact ⟨a, cap, l, rfl, hs, hw⟩
set_option maxRecDepth 100000 in
theorem okWide_array {t e : TypeId} {n : Nat} {r : Reach} {v : Value} (ht : Tryz.prog.underlying t = some (.array n e)) (h : Value.okWide Tryz.prog W r b0 t v) : ∃ cs, v = .agg cs ∧ cs.size = Tryz.prog.cellsOf t := by
  unfold Value.okWide at h
  rw [ht] at h
  obtain ⟨cs, rfl, hs, _⟩ := h
  exact ⟨cs, rfl, hs⟩
set_option maxRecDepth 100000 in
theorem trod_array2 {t e : TypeId} {fuel : Nat} {c0 c1 : Value} {x : DataW H × List MemPlace} (ht : Tryz.prog.underlying t = some (.array 2 e)) (hce : Tryz.prog.cellsOf e = 1)
    (h : DataW.trod enc Tryz.prog W base (fun _ => true) held fuel t [c0, c1] = some x) :
    ∃ y0 y1 n, x.1 = DataW.agg [y0.1, y1.1] ∧ DataW.trod enc Tryz.prog W base (fun _ => true) held n e [c0] = some y0 ∧ DataW.trod enc Tryz.prog W base (fun _ => true) held n e [c1] = some y1 := by
  obtain ⟨xs, m, _, hx, _, hl, hf⟩ := DataW.trod_array ht h
  have h0 := hf 0 (by omega)
  have h1 := hf 1 (by omega)
  rw [hce] at h0 h1
  match xs, hl with
  | [y0, y1], _ => exact ⟨y0, y1, m, by rw [hx]; rfl, by simpa using h0, by simpa using h1⟩
theorem float_form {t : TypeId} {k : FloatKind} {fuel : Nat} {v : Value} {y : DataW H × List MemPlace} (ht : Tryz.prog.underlying t = some (.float k)) (h : DataW.trod enc Tryz.prog W base (fun _ => true) held fuel t [v] = some y) : ∃ b, v = .float k b := by
  cases fuel with
  | zero => simp [DataW.trod] at h
  | succ n =>
    simp only [DataW.trod, ht] at h
    split at h <;> simp_all
theorem arr_two {cs : Array Value} (h : cs.size = 2) : ∃ x y, cs = #[x, y] := by
  obtain ⟨l⟩ := cs
  match l, h with
  | [x, y], _ => exact ⟨x, y, rfl⟩
set_option maxRecDepth 100000 in
theorem open_parts {v : Value} {d : DataW H} {p : List MemPlace} (hv : Value.okWide Tryz.prog W .any b0 37 v) (h : DataW.Trod enc Tryz.prog W base (fun _ => true) held 37 v d p) : ∃ x y, v = .agg #[.float .f64 x, .float .f64 y] := by
  obtain ⟨cs, rfl, hs⟩ := okWide_array Tryz.underlying37 hv
  obtain ⟨a, b, rfl⟩ := arr_two (hs.trans (by kernel_rfl))
  obtain ⟨fuel, hf⟩ := h
  obtain ⟨y0, y1, n, _, h0, h1⟩ := trod_array2 Tryz.underlying37 (by kernel_rfl) hf
  obtain ⟨x, rfl⟩ := float_form Tryz.underlying22 h0
  obtain ⟨y, rfl⟩ := float_form Tryz.underlying22 h1
  exact ⟨x, y, rfl⟩
end
end Go.Proofs.YtcmllllbmgcnlaaGreat.Rl
end
section
namespace Go.Proofs.YtcmllllbmgcnlaaGreat.Rl
open Go.RowKit Go.Lib Go.Shelf Go.Proofs.YtcmllllbmgcnlaaGreat.G Go.Proofs.YtcmllllbmgcnlaaGreat.Tup Go.Proofs.YtcmllllbmgcnlaaGreatW.PrintWords Go.Proofs.YtcmllllbmgcnlaaGreatW.PrintLast Go.Proofs.YtcmllllbmgcnlaaGreatW.PrintMore
set_option linter.unusedVariables false
set_option linter.unusedSimpArgs false
def Given (a N : Nat) (W : World) (A : Option Addr) (c : Nat) (x : Tp) : Prop := W.ownsRow a 3 1 (.slice A x.length c) x.length (x.map (Value.int .i64)) ∧ ∀ k, (Value.slice A x.length c).ownBlock = some k → k < N
def PrivX (a N : Nat) (A : Option Addr) : Nat → Prop := fun k => a ≤ k ∧ k < N ∧ ∀ ad, A = some ad → k ≠ ad.block
def Rounds2 (F : Fence) (P : Program) (l : Nat) (J Jx : List Row → World → Prop) (a N : Nat) (xs : List Row) : Prop :=
  ∀ m pre x A c W1, J pre W1 → pre ++ [x] <+: xs → Given a N W1 A c x.1 → YieldAt F m P l #[.slice A x.1.length c, noteV x.2] W1 fun e W' => (e = .returned (.bool true) ∧ J (pre ++ [x]) W' ∧ KpF (PrivX a N A) W1 W') ∨ (e = .returned (.bool false) ∧ Jx (pre ++ [x]) W' ∧ KeepsFrom a W1 W')
def Seq2R (F : Fence) (P : Program) (gf : Nat) (lb : Array Value) (xs : List Row) (w : World) : Prop :=
  ∀ (l : Nat) (J Jx : Nat → List Row → World → Prop) (W : World), Below w.heap.size w W → (∀ N, W.heap.size ≤ N → OwnFrom W.heap.size (J N)) → (∀ N, W.heap.size ≤ N → OwnFrom W.heap.size (Jx N)) → (∀ N, W.heap.size ≤ N → Rounds2 F P l (J N) (Jx N) W.heap.size N xs) → (∀ W', Below W.heap.size W W' → J W'.heap.size [] W') →
    ∀ n, CallsIn F n P gf (#[.func (.yield l) #[] #[]] ++ lb) W fun e W' => (∃ v, e = .returned v) ∧ ∃ N, W.heap.size ≤ N ∧ (J N xs W' ∨ ∃ pre, pre <+: xs ∧ Jx N pre W')
theorem rounds_of2 {F : Fence} {n : Nat} (hd : F.depth = none) {P : Program} {B l : Nat} (hBl : B ≤ l) {fn : FuncId} {tm : Array Value} {ps : Array Tmp} {assign body : Code} {d : Nat} (hfn : F.fn fn) {a0 N0 : Nat} {xs : List Row} (hps : ps.size = 2) (I : List Row → World → Prop) (Ix : Code → List Row → World → Prop) (hI : OwnFrom B I) (hIx : ∀ c, OwnFrom B (Ix c)) (Dl : List Nat) (hD : ∀ D ∈ Dl, B ≤ D ∧ D ≠ l) (hla : l < a0) (hBa : B ≤ a0) (a₁ : Row → Option Addr → Nat → Act)
    (hassign : ∀ x A c W (K : Act → World → Prop), K (a₁ x A c) W → assign.wpIn (F.inRound l) n P (Exit.then K (fun _ _ _ => False)) { tmps := (ps.zip #[Value.slice A x.1.length c, noteV x.2]).foldl (fun t (p, v) => t.setIfInBounds p v) tm, defers := [] } W)
    (hbody : ∀ pre x A c W1, (∃ r, W1.heap[l]? = some (.loop r)) → pre ++ [x] <+: xs → Given a0 N0 W1 A c x.1 → I pre W1 → body.wpIn (F.inRound l) n P (ownPostG B (KpF (PrivX a0 N0 A)) I Ix (pre ++ [x]) W1) (a₁ x A c) W1) :
    Rounds2 F P l (fun pre W => I pre W ∧ W.heap[l]? = some (.loop (recOf fn tm ps assign body d .ready none)) ∧ Marks Dl W) (fun pre W => ∃ c, Ix c pre W ∧ W.heap[l]? = some (.loop (recOf fn tm ps assign body d .done (some c))) ∧ Marks Dl W) a0 N0 xs := by
  rintro m pre x A c W1 ⟨hi1, hl1, hk1⟩ hpre ⟨ho, hN⟩
  have hlt1 := (Array.getElem?_eq_some_iff.1 hl1).1
  refine yieldAny hd m ⟨fn, _, assign, body, run_yield hl1 (by simp [recOf, hps]), roundIn_of_wpIn hfn (hassign x A c W1 _ ⟨_, run_beginRound hl1 rfl, ?_⟩)⟩
  obtain ⟨ob, hob⟩ : ∃ ob, ob = Obj.loop { recOf fn tm ps assign body d .ready none with state := .busy } := ⟨_, rfl⟩
  rw [← hob]
  have hoo : Given a0 N0 (W1.putObj l ob) A c x.1 := ⟨own_move ho fun k hk => World.putObj_heap_other (fun e => by
    obtain ⟨cells, hc⟩ := own_typed ho k hk
    rw [e, hl1] at hc; cases hc), hN⟩
  have hl2 : (W1.putObj l ob).heap[l]? = some ob := World.putObj_heap_same hlt1
  have hk2 : Marks Dl (W1.putObj l ob) := fun D hD' => (World.putObj_heap_other (hD D hD').2).trans (hk1 D hD')
  refine wpIn_mono (hbody pre x A c (W1.putObj l ob) ⟨_, hl2.trans (by rw [hob])⟩ hpre hoo (hI.putObj _ hi1 hBl hl1 rfl)) ?_
  have hnl : ∀ k, PrivX a0 N0 A k → k ≠ l := fun k hk => by have := hk.1; omega
  have fin : ∀ (jump : Option Code) (W3 : World), KeepsFrom B (W1.putObj l ob) W3 → ∃ v W4, (Instr.endRound l jump).run P W3 = .ok v W4 ∧ v = .bool jump.isNone ∧ W4 = W3.putObj l (.loop (recOf fn tm ps assign body d (if jump.isNone then .ready else .done) jump)) ∧ W3.heap[l]? = some ob ∧ W4.heap[l]? = some (.loop (recOf fn tm ps assign body d (if jump.isNone then .ready else .done) jump)) ∧ Marks Dl W4 := by
    intro jump W3 hk3
    have hl3 : W3.heap[l]? = some ob := hk3.same l ob hBl hl2 (by rw [hob]; rfl)
    have hlt3 := (Array.getElem?_eq_some_iff.1 hl3).1
    refine ⟨_, _, run_endRound jump (hl3.trans (by rw [hob])), rfl, rfl, hl3, World.putObj_heap_same hlt3, fun D hD' => (World.putObj_heap_other (hD D hD').2).trans (hk3.same D _ (hD D hD').1 (hk2 D hD') rfl)⟩
  have stop : ∀ (cc : Code) (W3 : World), KeepsFrom B (W1.putObj l ob) W3 → Ix cc (pre ++ [x]) W3 → ∃ v W4, (Instr.endRound l (some cc)).run P W3 = .ok v W4 ∧ ((Ending.returned v = .returned (.bool true) ∧ (I (pre ++ [x]) W4 ∧ W4.heap[l]? = some (.loop (recOf fn tm ps assign body d .ready none)) ∧ Marks Dl W4) ∧ KpF (PrivX a0 N0 A) W1 W4) ∨ (Ending.returned v = .returned (.bool false) ∧ (∃ c', Ix c' (pre ++ [x]) W4 ∧ W4.heap[l]? = some (.loop (recOf fn tm ps assign body d .done (some c'))) ∧ Marks Dl W4) ∧ KeepsFrom a0 W1 W4)) := by
    intro cc W3 hk3 hx
    obtain ⟨v, W4, hr, rfl, rfl, hl3, hl4, hm4⟩ := fin (some cc) W3 hk3
    exact ⟨_, _, hr, .inr ⟨rfl, ⟨cc, (hIx cc).putObj _ hx hBl hl3 (by rw [hob]; rfl), hl4, hm4⟩, ⟨by have := hk3.size; simp at this ⊢; exact this, fun k o hk ho hc => (World.putObj_heap_other (by omega)).trans (hk3.same k o (by omega) ((World.putObj_heap_other (by omega)).trans ho) hc)⟩⟩⟩
  rintro e a3 W3 hp
  cases e with
  | normal =>
    obtain ⟨hk3, hkp3, hi3⟩ := hp
    obtain ⟨v, W4, hr, rfl, rfl, hl3, hl4, hm4⟩ := fin none W3 hk3
    refine ⟨_, _, hr, .inl ⟨rfl, ⟨hI.putObj _ hi3 hBl hl3 (by rw [hob]; rfl), hl4, hm4⟩, ?_⟩⟩
    have q1 : KpF (PrivX a0 N0 A) W1 (W1.putObj l ob) := ⟨by simp, fun k hk _ => World.putObj_heap_other (hnl k hk)⟩
    exact (q1.trans hkp3).trans ⟨by simp, fun k hk _ => World.putObj_heap_other (hnl k hk)⟩
  | ret => exact stop .ret W3 hp.1 hp.2
  | exit id => exact stop (.exit id) W3 hp.1 hp.2
  | goto t => exact stop (.goto t) W3 hp.1 hp.2
  | panic ch => exact hp.elim
  | outgrown => exact hp.elim
theorem range2_outer {F : Fence} {n : Nat} {P : Program} {g : Operand} {ps : Array Tmp} {assign body : Code} {Q : Exit → Act → World → Prop} {a : Act} {w : World} (hd : F.depth = none) (hro : F.round = none)
    {gf : Nat} {lb : Array Value} (hg : a.eval g = .func (.func gf) #[] lb) (hFg : F.fn gf) (eg : ∀ args w, (callFunc gf args).run P w = .ok (.enter gf args) w)
    {xs : List Row} (hseq : Seq2R F P gf lb xs w) (hps : ps.size = 2)
    (I : Nat → List Row → World → Prop) (Ix : Nat → Code → List Row → World → Prop) (hI : ∀ N, w.heap.size + 2 ≤ N → OwnFrom w.heap.size (I N)) (hIx : ∀ N c, w.heap.size + 2 ≤ N → OwnFrom w.heap.size (Ix N c)) (h0 : ∀ W', Below w.heap.size w W' → w.heap.size + 2 ≤ W'.heap.size → I W'.heap.size [] W') (a₁ : Row → Option Addr → Nat → Act)
    (hassign : ∀ l x A c W (K : Act → World → Prop), K (a₁ x A c) W → assign.wpIn (F.inRound l) n P (Exit.then K (fun _ _ _ => False)) { tmps := (ps.zip #[Value.slice A x.1.length c, noteV x.2]).foldl (fun t (p, v) => t.setIfInBounds p v) a.tmps, defers := [] } W)
    (hbody : ∀ N l pre x A c W1, w.heap.size + 2 ≤ N → w.heap.size ≤ l → (∃ r, W1.heap[l]? = some (.loop r)) → pre ++ [x] <+: xs → Given (w.heap.size + 2) N W1 A c x.1 → I N pre W1 → body.wpIn (F.inRound l) n P (ownPostG w.heap.size (KpF (PrivX (w.heap.size + 2) N A)) (I N) (Ix N) (pre ++ [x]) W1) (a₁ x A c) W1)
    (hdone : ∀ (N D : Nat) (W : World), w.heap.size + 2 ≤ N → w.heap.size ≤ D → I N xs W → W.heap[D]? = some (.deferred (some [])) → Q .normal { a with defers := { target := .collected D, args := #[] } :: a.defers } W)
    (hstop : ∀ (N D : Nat) (c : Code) (pre : List Row) (W : World), w.heap.size + 2 ≤ N → w.heap.size ≤ D → pre <+: xs → Ix N c pre W → W.heap[D]? = some (.deferred (some [])) → c.wpIn F n P Q { a with defers := { target := .collected D, args := #[] } :: a.defers } W) :
    (Code.rangeFunc g ps assign body).wpIn F n P Q a w := by
  refine wpIn_rangeFunc ?_
  intro fn hfn
  rw [hro]
  obtain ⟨W1, hW1⟩ : ∃ W1, (w.alloc (.deferred (some []))).alloc (.loop (recOf fn a.tmps ps assign body w.heap.size .ready none)) = W1 := ⟨_, rfl⟩
  have hL1 : W1.heap[w.heap.size + 1]? = some (.loop (recOf fn a.tmps ps assign body w.heap.size .ready none)) := by
    rw [← hW1]; have := World.alloc_heap_new (w.alloc (.deferred (some []))) (.loop (recOf fn a.tmps ps assign body w.heap.size .ready none)); rwa [World.size_alloc] at this
  have hK1 : W1.heap[w.heap.size]? = some (.deferred (some [])) := by
    rw [← hW1]; exact (Below.heap_alloc _ _ _ (by simp)).trans (World.alloc_heap_new w _)
  have hb1 : Below w.heap.size w W1 := by rw [← hW1]; exact below_alloc (below_alloc (Below.refl _ _) _) _
  have hw1 : W1.heap.size = w.heap.size + 2 := by rw [← hW1]; simp
  refine ⟨w.heap.size + 1, [{ target := .collected w.heap.size, args := #[] }], W1, { target := .fn (.func gf) lb, args := #[.func (.yield (w.heap.size + 1)) #[] #[]] }, W1, gf,
    #[.func (.yield (w.heap.size + 1)) #[] #[]] ++ lb, W1, ?_, ?_, ?_, ?_, (fun h => by rw [hd] at h; cases h), ?_⟩
  · rw [← hW1]; exact run_enterLoop_outer _ _ _ _ _
  · simp only [resolve, hg]
    simp [go_sem]
  · intro f' hf'; simp [Target.leads] at hf'; subst hf'; exact hFg
  · simp [invoke, go_sem, eg]
  · have hR : ∀ N, W1.heap.size ≤ N → _ := fun N hN => rounds_of2 (n := n) (P := P) (B := w.heap.size) (l := w.heap.size + 1) (d := w.heap.size) (tm := a.tmps) (ps := ps) (assign := assign) (body := body) hd (by omega) hfn (a0 := w.heap.size + 2) (N0 := N) hps (I N) (Ix N) (hI N (by omega)) (fun c => hIx N c (by omega)) [w.heap.size] (fun D hD => by simp at hD; subst hD; omega) (by omega) (by omega) a₁ (hassign _) (fun pre x A c W1 => hbody N _ pre x A c W1 (by omega) (by omega))
    have keep : ∀ {A B : World} {row : Option Nat} (k : Nat) (o : Obj), A.grownBy B row → (∀ r, row = some r → W1.heap.size ≤ r ∧ ∃ o : Obj, A.heap[r]? = some o ∧ o.isCells = false) → A.heap[k]? = some o → k < W1.heap.size → B.heap[k]? = some o := fun k o hg hr hk hlt =>
      (hg.block k (Array.getElem?_eq_some_iff.1 hk).1 (fun e => by have := (hr k e.symm).1; omega)).trans hk
    have hnw : ∀ {A : World} {row : Option Nat}, (∀ r, row = some r → W1.heap.size ≤ r ∧ ∃ o : Obj, A.heap[r]? = some o ∧ o.isCells = false) → (∀ r, row = some r → w.heap.size ≤ r ∧ ∃ o : Obj, A.heap[r]? = some o ∧ o.isCells = false) :=
      fun hr r e => by obtain ⟨hB, o, ho, hw⟩ := hr r e; exact ⟨by omega, o, ho, hw⟩
    rw [← hw1] at hR
    refine (hseq (w.heap.size + 1) (fun N pre W => I N pre W ∧ W.heap[w.heap.size + 1]? = some (.loop (recOf fn a.tmps ps assign body w.heap.size .ready none)) ∧ Marks [w.heap.size] W) (fun N pre W => ∃ c, Ix N c pre W ∧ W.heap[w.heap.size + 1]? = some (.loop (recOf fn a.tmps ps assign body w.heap.size .done (some c))) ∧ Marks [w.heap.size] W) W1 hb1
      (fun N hN s A B row hs hg' hr => ⟨hI N (by omega) s A B row hs.1 hg' (hnw hr), keep _ _ hg' hr hs.2.1 (by omega), fun D hD => keep _ _ hg' hr (hs.2.2 D hD) (by simp at hD; omega)⟩)
      (fun N hN s A B row hs hg' hr => by
        obtain ⟨c, hc, hl, hk⟩ := hs
        exact ⟨c, hIx N c (by omega) s A B row hc hg' (hnw hr), keep _ _ hg' hr hl (by omega), fun D hD => keep _ _ hg' hr (hk D hD) (by simp at hD; omega)⟩) hR
      (fun W' hW' => ⟨h0 W' (below_then hb1 hb1.size hW') (by have := hW'.size; omega), blk hW' hL1, fun D hD => by simp at hD; subst hD; exact blk hW' hK1⟩) (n - 1)).mono ?_
    rintro e W2 ⟨⟨v, rfl⟩, N, hN, (⟨hi, hl, hk⟩ | ⟨pre, hpre, c, hi, hl, hk⟩)⟩
    · exact ⟨none, _, run_endLoop hl (by simp [recOf]), hdone N _ _ (by omega) (Nat.le_refl _) ((hI N (by omega)).putObj _ hi (by omega) hl rfl) ((World.putObj_heap_other (by omega)).trans (hk _ (by simp)))⟩
    · exact ⟨some c, _, run_endLoop hl (by simp [recOf]), hstop N _ c pre _ (by omega) (Nat.le_refl _) hpre ((hIx N c (by omega)).putObj _ hi (by omega) hl rfl) ((World.putObj_heap_other (by omega)).trans (hk _ (by simp)))⟩
end Go.Proofs.YtcmllllbmgcnlaaGreat.Rl
end
section
namespace Go.Proofs.YtcmllllbmgcnlaaGreat.Rl
open Go.RowKit Go.Lib Go.Deep Go.Proofs.YtcmllllbmgcnlaaGreat.G Go.Proofs.YtcmllllbmgcnlaaGreat.Tup Go.Proofs.YtcmllllbmgcnlaaGreatW.PrintWords Go.Proofs.YtcmllllbmgcnlaaGreatW.PrintLast Go.Proofs.YtcmllllbmgcnlaaGreatW.PrintMore
set_option linter.unusedVariables false
set_option linter.unusedSimpArgs false
theorem plainO_drop {n i : Nat} (h : i < n) : (plainO n).drop i = (i : Int) :: (plainO n).drop (i + 1) := by
  rw [List.drop_eq_getElem_cons (by rw [plainO_len]; exact h)]
  simp [plainO]
theorem plainO_end (n : Nat) : (plainO n).drop n = [] := List.drop_eq_nil_of_le (by rw [plainO_len]; omega)
set_option maxHeartbeats 4000000 in
set_option maxRecDepth 100000 in
theorem compare_calls (W : World) (n : Nat) (A : Option Addr) (c : Nat) (t : Tp) (B : Option Addr) (d : Nat) (s : Tp) (ht : Sl W A c t) (hs : Sl W B d s) (hlt : t.length = n) (hls : s.length = n) (hn : n ≤ 1000) :
    Calls Tryz.prog 73 #[.slice A n c, .slice B n d] W fun e w' => e = .returned (.int .i64 (cmpL (plainO n) t s)) ∧ Drawn0 W w' := by
  have H1 := Aside0.mk ht
  have H2 := Aside0.mk hs
  have L1 := Aside0.mk hlt
  have L2 := Aside0.mk hls
  have HI := Aside0.mk (fun (k : Nat) (h : k < n) => And.intro (IntWalk.i64_in ((k : Int) + 1) (by omega)) (show (0 : Int) ≤ (k : Int) from by omega))
  obtain ⟨r, hr⟩ : ∃ r, r = cmpL (plainO n) t s := ⟨_, rfl⟩
  rw [← hr]
  have HR := Aside0.mk hr
  clear ht hs hlt hls hr
  go_enter Tryz.func73, Tryz.ntmps73
  go_wp2
  go_loopg [11] n (fun gk v11 wr => ∃ k : Nat, v11 = .int .i64 (k : Int) ∧ Aside0 (k + gk = n) ∧ Aside0 (Drawn0 W wr) ∧ Aside0 (r = cmpL ((plainO n).drop k) t s))
  case atStart => exact ⟨0, rfl, ⟨by omega⟩, ⟨⟨0, rfl⟩⟩, ⟨HR.out⟩⟩
  case round =>
    obtain ⟨k, rfl, HK, HD, HQ⟩ := hrel
    obtain ⟨m, rfl⟩ := HD.out
    by_cases hk : k < n
    · have hkd : decide (k < n) = true := decide_eq_true hk
      have hki : (k : Int) < (n : Int) := by omega
      have hkn : ¬ (n : Int) ≤ (k : Int) := by omega
      obtain ⟨ad, rfl, c1⟩ := Kd.at_int (Kd.C_drewN H1.out.C m) (k : Int) (by omega) (by rw [L1.out]; omega)
      obtain ⟨bd, rfl, c2⟩ := Kd.at_int (Kd.C_drewN H2.out.C m) (k : Int) (by omega) (by rw [L2.out]; omega)
      rw [show ((k : Int)).toNat = k from by omega] at c1 c2
      obtain ⟨x, hx⟩ : ∃ x, x = rd t (k : Int) := ⟨_, rfl⟩
      obtain ⟨y, hy⟩ : ∃ y, y = rd s (k : Int) := ⟨_, rfl⟩
      rw [← hx] at c1
      rw [← hy] at c2
      have HC := Aside0.mk (fun w => cmp_Compare_int.calls x y _ w (compare_is x y))
      have HS := Aside0.mk (show r = if x < y then -1 else if x > y then 1 else cmpL ((plainO n).drop (k + 1)) t s from by rw [hx, hy, HQ.out, plainO_drop hk]; rfl)
      clear hx hy
      by_cases h1 : x < y
      · have HC1 : Aside0 (∀ w, Calls Tryz.prog 96 #[.int .i64 x, .int .i64 y] w fun e w' => e = .returned (.int .i64 (-1)) ∧ Drawn0 w w') := ⟨fun w => by have := HC.out w; rwa [if_pos h1] at this⟩
        have HS1 := Aside0.mk (HS.out.trans (if_pos h1))
        clear h1 HC HS
        go_wp2_with (go_at_call 96; (with_reducible refine (HC1.out _).mono ?_); rintro e w1 ⟨rfl, ⟨m1, rfl⟩⟩)
        go_ret
        exact ⟨by rw [HS1.out]; rfl, ⟨m + m1, by first | rfl | simp [World.drewN, Nat.add_assoc]⟩⟩
      · by_cases h2 : x > y
        · have HC1 : Aside0 (∀ w, Calls Tryz.prog 96 #[.int .i64 x, .int .i64 y] w fun e w' => e = .returned (.int .i64 1) ∧ Drawn0 w w') := ⟨fun w => by have := HC.out w; rwa [if_neg h1, if_pos h2] at this⟩
          have HS1 := Aside0.mk (HS.out.trans ((if_neg h1).trans (if_pos h2)))
          clear h1 h2 HC HS
          go_wp2_with (go_at_call 96; (with_reducible refine (HC1.out _).mono ?_); rintro e w1 ⟨rfl, ⟨m1, rfl⟩⟩)
          go_ret
          exact ⟨by rw [HS1.out]; rfl, ⟨m + m1, by first | rfl | simp [World.drewN, Nat.add_assoc]⟩⟩
        · have HC1 : Aside0 (∀ w, Calls Tryz.prog 96 #[.int .i64 x, .int .i64 y] w fun e w' => e = .returned (.int .i64 0) ∧ Drawn0 w w') := ⟨fun w => by have := HC.out w; rwa [if_neg h1, if_neg h2] at this⟩
          have HS1 := Aside0.mk (HS.out.trans ((if_neg h1).trans (if_neg h2)))
          clear h1 h2 HC HS
          go_wp2_with (go_at_call 96; (with_reducible refine (HC1.out _).mono ?_); rintro e w1 ⟨rfl, ⟨m1, rfl⟩⟩)
          obtain ⟨g2, hg2⟩ : ∃ g2, g2 = gk - 1 := ⟨_, rfl⟩
          go_roundg g2
          case measure => have := HK.out; omega
          case rel => exact ⟨k + 1, by go_num, ⟨by have := HK.out; omega⟩, ⟨⟨m + m1, by simp⟩⟩, HS1⟩
    · have hkd : decide (k < n) = false := decide_eq_false hk
      have hki : ¬ (k : Int) < (n : Int) := by omega
      have hnn : ¬ (n : Int) < (n : Int) := by omega
      have HS1 : Aside0 (r = 0) := ⟨by
        have : k = n := by have := HK.out; omega
        rw [HQ.out, this, plainO_end]; rfl⟩
      go_wp2
      go_ret
      exact ⟨by rw [HS1.out]; rfl, ⟨m, rfl⟩⟩
end Go.Proofs.YtcmllllbmgcnlaaGreat.Rl
end
section
namespace Go.Proofs.YtcmllllbmgcnlaaGreat.Rl
open Go.RowKit Go.Lib Go.Shelf Go.Proofs.YtcmllllbmgcnlaaGreat.G Go.Proofs.YtcmllllbmgcnlaaGreat.Tup Go.Proofs.YtcmllllbmgcnlaaGreatW.PrintWords Go.Proofs.YtcmllllbmgcnlaaGreatW.PrintLast Go.Proofs.YtcmllllbmgcnlaaGreatW.PrintMore
set_option linter.unusedVariables false
set_option linter.unusedSimpArgs false
theorem op_round {P : Program} {ops : Array Oper} {Q : Exit → Act → World → Prop} {l n : Nat} (hL : ¬ LetsOut Q) {i : Nat} (hd : ∀ o, ops[i]? = some o → ∀ c, o.op ≠ .defer c) {K K' : Act → World → Prop} {a : Act} {w : World} (h : wpOp P ops Q i K a w) (hK : ∀ a w, K a w → K' a w) : wpOpIn (Fence.wide.inRound l) n P ops Q i K' a w := by
  unfold wpOp at h
  unfold wpOpIn
  cases ho : ops[i]? with
  | none => rw [ho] at h; exact hK _ _ h
  | some o =>
    rw [ho] at h
    dsimp only at h ⊢
    split
    · rename_i hw
      rw [if_pos hw] at h
      rcases h with h | h
      · refine ⟨fun f _ => trivial, ?_⟩
        rw [Oper.semAt_eq _ _ _ (hd o ho)]
        unfold Oper.wp at h
        generalize (execOp a.eval o).run P w = r at h ⊢
        cases r with
        | ok x w' =>
          cases x <;> simp only [Oper.upon, Oper.uponIn] at h ⊢
          case value u => exact hK _ _ h
          case skip => exact hK _ _ h
          case defer d => exact hK _ _ h
          case enter f args =>
            refine ⟨(fun h => Bool.noConfusion h), (callsIn_wide (n := n - 1)).2 (h.mono fun e w'' he => ?_)⟩
            cases e with
            | returned v => exact hK _ _ he
            | panicked c => exact he
            | outgrown => exact he
          case row row args => exact ⟨(fun h => Bool.noConfusion h), fun c cs _ => let ⟨v, w', r, s⟩ := h c cs; ⟨v, w', hK _ _ r, stepsIn_wide.2 s⟩⟩
        | halt x w' =>
          cases x <;> simp only [Oper.upon, Oper.uponIn] at h ⊢
          case panic u => exact h
      · exact absurd h.2 hL
    · rename_i hw
      rw [if_neg hw] at h
      exact ⟨fun f _ => trivial, hK _ _ h⟩
theorem any_round {P : Program} {md : Region.Mode} {ops : Array Oper} {Q : Exit → Act → World → Prop} {l n : Nat} (hL : ¬ LetsOut Q) (hd : ∀ (i : Nat) (o : Oper), ops[i]? = some o → ∀ c, o.op ≠ Op.defer c) : ∀ (fuel : Nat) (listed : Array Bool) (a : Act) (w : World), wpAny P md ops Q fuel listed a w → wpAnyIn (Fence.wide.inRound l) n P md ops Q fuel listed a w
  | 0, _, _, _, h => h
  | fuel + 1, listed, a, w, h => ⟨h.1, fun i hi => op_round hL (hd i) (h.2 i hi) fun a w h => any_round hL hd fuel _ a w h⟩
def noDefer (o : Oper) : Bool := match o.op with
  | .defer _ => false
  | _ => true
theorem region_round {P : Program} {S : World → Prop} {ops : Array Oper} {id : Nat} {Q : Exit → Act → World → Prop} {a : Act} {w : World} {l n : Nat} (hm : P.follows .mixedOrders = true) (hd : ops.all noDefer = true) (hL : ¬ LetsOut Q) (hS : S w.drew) (h : S w.drew → wpAnyH P .any ops Q S ops.size (Array.replicate ops.size false) a w.drew) : (Code.region id ops true).wpIn (Fence.wide.inRound l) n P Q a w :=
  wpIn_region_any hm (any_round hL (fun i o ho c e => by
    have h1 := Array.all_eq_true.1 hd i (Array.getElem?_eq_some_iff.1 ho).1
    rw [(Array.getElem?_eq_some_iff.1 ho).2] at h1
    simp [noDefer, e] at h1) _ _ _ _ (wpAny_of_held _ _ _ _ (h hS)))
end Go.Proofs.YtcmllllbmgcnlaaGreat.Rl
end
