/- Own texts, joined and cut to what the claim stands on: RlNew. -/
import Derived.Test.YtcmllllbmgcnlaaGreatU19
import Derived.Test.YtcmllllbmgcnlaaGreatU25
section
namespace Go.Proofs.YtcmllllbmgcnlaaGreat.Rl
open Go.RowKit Go.Lib Go.Deep Go.Proofs.YtcmllllbmgcnlaaGreat.G Go.Proofs.YtcmllllbmgcnlaaGreat.Tup Go.Proofs.YtcmllllbmgcnlaaGreatW.PrintWords Go.Proofs.YtcmllllbmgcnlaaGreatW.PrintLast Go.Proofs.YtcmllllbmgcnlaaGreatW.PrintMore
open Go.Proofs.YtcmllllbmgcnlaaGreat.Ch (rwrongS OrdersR orders_calls Rw Ow ordOf ChainsOk)
set_option linter.unusedVariables false
set_option linter.unusedSimpArgs false
set_option maxHeartbeats 4000000 in
set_option maxRecDepth 100000 in
theorem rnew_no (W : World) (width : Int) (A : Option Addr) (c : Nat) (l : List Int) (h : Sl W A c l) (h0 : rwrongS width l ≠ 0) :
  Calls Tryz.prog 11 #[.int .i64 width, .slice A l.length c] W fun e w' => e = .returned (.tuple #[.pointer none, .int .i64 (rwrongS width l)]) ∧ Below W.heap.size W w' := by
 have hO := orders_calls width A c l W h
 obtain ⟨z, hz⟩ : ∃ z, z = rwrongS width l := ⟨_, rfl⟩
 rw [← hz] at h0 ⊢
 have hzd : (z == 0) = false := by simpa using h0
 have HZ := Aside0.mk (And.intro hz h0)
 clear h hz h0
 go_enter Tryz.func11, Tryz.ntmps11
 go_wp2_with (go_at_call 35; refine hO.mono ?_; clear hO; rintro e w1 ⟨v, y, rfl, hy, hb1, hor⟩; obtain rfl : y = z := hy.trans HZ.out.1.symm; obtain rfl : v = .slice none 0 0 := (hor.resolve_right fun h => HZ.out.2 h.1).2; have HB1 := Aside0.mk hb1; clear hb1 hor hy)
 go_ret2
 exact ⟨rfl, HB1.out⟩
theorem el_own {W : World} {base : Nat} {v : Value} {t : Tp} (h : Ow W base v t) : El KT W (fun k => base ≤ k ∧ k < W.heap.size) t v := by
 obtain ⟨A', c', e, hle, hF⟩ := rows_in (d := Kd.int .i64) (ok := fun _ => False) rfl h (Els.of (by simp) fun i hi hu => by rw [List.getElem_map]; exact fun W' _ => rfl) rfl
 subst e
 exact tup_el hle (Kd.F_mono hF fun k hk => hk.elim False.elim fun hk => ⟨own_ge h k hk, Tup.own_lt h k hk⟩)
theorem el_plain {W : World} {g n : Nat} (h : W.rowIs g 3 n (fun i => .int .i64 (i : Int))) (hn : n ≤ 1000) : El KT W (fun k => k = g) (plainO n) (.slice (some ⟨g, 0, none⟩) n n) := by
 obtain ⟨cs, hg, hs, hi⟩ := h
 have : Ow W 0 (.slice (some ⟨g, 0, none⟩) n n) (plainO n) := by
  refine ⟨by simp [plainO], .inr ⟨g, n, cs, by rw [plainO_len], Nat.zero_le _, hg, by rw [plainO_len]; exact Nat.le_refl _, by unfold maxLen; omega, by omega, ?_⟩⟩
  rw [plainO_len, Nat.mul_one]
  refine List.ext_getElem (by simp [plainO, hs]) fun i h1 h2 => ?_
  have hi' : i < n := by simp [plainO] at h2; exact h2
  have := hi i hi'
  rw [← Array.getElem?_toList] at this
  have h3 := (List.getElem?_eq_some_iff.1 this).2
  simp [plainO, h3]
 obtain ⟨A', c', e, hle, hF⟩ := rows_in (d := Kd.int .i64) (ok := fun _ => False) rfl this (Els.of (by simp) fun i hi hu => by rw [List.getElem_map]; exact fun W' _ => rfl) rfl
 rw [plainO_len] at e
 injection e with e1 e2 e3
 subst e1 e3
 have := tup_el hle hF
 rw [plainO_len] at this
 exact this.mono fun k hk => hk.elim False.elim fun hk => by simpa [Value.ownBlock] using hk
theorem infoT : (Tryz.prog.info? 23).map (fun i => (i.zero, i.size, i.bytes)) = some (some (.slice none 0 0), 1, 24) := by kernel_rfl
theorem least_pos {l : List Int} {n : Nat} (h : Go.Proofs.YtcmllllbmgcnlaaGreat.Ch.LeastIs l n) : 0 < n := by
 obtain ⟨u, m, _, _, _, rfl⟩ := h
 omega
def MadeR (W : World) (width : Int) (e : Ending) (w' : World) : Prop :=
 ∃ br wd os m bss, width = (wd : Nat) ∧ e = .returned (.tuple #[.pointer (some ⟨br, 0, none⟩), .int .i64 0]) ∧ Below W.heap.size W w' ∧ W.heap.size ≤ br ∧ W.heap.size ≤ m ∧ (∀ b ∈ bss, W.heap.size ≤ b) ∧ RelAt (fun k => W.heap.size ≤ k ∧ k ≠ br ∧ k ≠ m ∧ k ∉ bss) w' br wd os [] m bss
theorem orders_os {wd : Nat} {l : List Int} {rows : List (List Int)} (h8 : wd ≤ 8) (hy : Go.Proofs.YtcmllllbmgcnlaaGreat.Ch.wrongS wd l = 0) (h : ChainsOk l rows) (hr : rows.length ≤ 257) : OsOk wd (plainO wd :: rows.map (ordOf wd)) := by
 obtain ⟨_, h2⟩ := Go.Proofs.YtcmllllbmgcnlaaGreat.Ch.good_wrong h8 hy
 have hs := Go.Proofs.YtcmllllbmgcnlaaGreat.Ch.orders_serve h8 h2 h
 refine ⟨h8, by simp; omega, rfl, fun o ho => ?_⟩
 rcases List.mem_cons.1 ho with rfl | ho
 ·exact ⟨plainO_rt h8, plainO_len wd⟩
 ·have := hs.2.1 o ho
  exact ⟨this.2, this.1⟩
theorem orders_row {W w1 w2 wa w3 : World} {wd : Nat} {v : Value} {ovs : List Value} {rows : List (List Int)} {g' cap' n : Nat} (h8 : wd ≤ 8) (hRw : Rw w1 W.heap.size v ovs rows) (hb1 : Below W.heap.size W w1) (hb2 : Below w1.heap.size w1 w2) (hp : w2.rowIs w1.heap.size 3 wd (fun i => .int .i64 (i : Int))) (hwa : wa = w2.alloc (.cells #[.slice (some ⟨w1.heap.size, 0, none⟩) wd wd] 23)) (hg : wa.grownBy w3 (some w2.heap.size))
  (ho : w3.ownsRow w2.heap.size 23 1 (.slice (some ⟨g', 0, none⟩) n cap') n ([.slice (some ⟨w1.heap.size, 0, none⟩) wd wd] ++ ovs)) (hn : n = 1 + rows.length) :
  n ≤ cap' ∧ Kd.F KT w3 (fun k => W.heap.size ≤ k ∧ k < w3.heap.size) (some ⟨g', 0, none⟩) n (plainO wd :: rows) := by
 have hs1 := hb1.size
 have hs2 := hb2.size
 have hsa : wa.heap.size = w2.heap.size + 1 := by rw [hwa]; simp
 have hs3 := hg.size
 have hk : ∀ k, k < w2.heap.size → w3.heap[k]? = w2.heap[k]? := fun k hk => by
  rw [hg.block k (by omega) (fun e => by injection e with e; omega), hwa, Below.heap_alloc _ _ _ hk]
 obtain ⟨cs, hp1, hp2, hp3⟩ := hp
 have hpl : w1.heap.size < w2.heap.size := (Array.getElem?_eq_some_iff.1 hp1).1
 have hE : Els (El KT w3 (fun k => W.heap.size ≤ k ∧ k < w3.heap.size)) (plainO wd :: rows) ([.slice (some ⟨w1.heap.size, 0, none⟩) wd wd] ++ ovs) := by
  refine .cons ((el_plain (g := w1.heap.size) ⟨cs, (hk _ hpl).trans hp1, hp2, hp3⟩ (by omega)).mono fun k e => ⟨by omega, by omega⟩) ?_
  show Els _ rows ovs
  refine Els.of hRw.len fun i hi hu => ?_
  exact ((el_own (hRw.els i hu hi)).step (W1 := w3) fun k hk' hlt => (hk k (by omega)).trans (hb2.block k hlt)).mono fun k hk' => ⟨hk'.1, by omega⟩
 obtain ⟨A', c', e, hle, hF⟩ := rows_in rfl ho hE (by simp [hn]; omega)
 injection e with e1 e2 e3
 subst e1 e3
 have hl : (plainO wd :: rows).length = n := by simp [hn]; omega
 rw [hl] at hle hF
 exact ⟨hle, Kd.F_mono hF fun k hk => hk.elim id fun hk => ⟨by have := own_ge ho k hk; omega, Tup.own_lt ho k hk⟩⟩
theorem rw_slice {w : World} {base : Nat} {v : Value} {ovs : List Value} {rows : List (List Int)} (h : Rw w base v ovs rows) (hp : 0 < rows.length) : ∃ g c, v = .slice (some ⟨g, 0, none⟩) rows.length c ∧ ovs.length = rows.length ∧ (∀ w', Below w.heap.size w w' → ∀ j u, ovs[j]? = some u → w'.cell? ((⟨g, 0, none⟩ : Addr).add j) = some u) ∧ ∀ u ∈ ovs, u.oneCell' = true := by
 have hlen := h.len
 have ho := h.own
 rcases ho.2 with ⟨_, h0⟩ | ⟨g, cap, cur, rfl, hbg, hg, _⟩
 ·omega
 ·refine ⟨g, cap, by rw [hlen], hlen, fun w' hb j u hj => ?_, fun u hu => ?_⟩
  ·obtain ⟨hjl, rfl⟩ := List.getElem?_eq_some_iff.1 hj
   have := ho.cellAt j (by omega)
   rw [Addr.add_lit, Nat.zero_add]
   exact pw_cell_below hb (this.trans (List.getElem?_eq_getElem _))
  ·obtain ⟨r, hr⟩ := h.mem u hu
   obtain ⟨A', c', e, _⟩ := Go.Proofs.YtcmllllbmgcnlaaGreat.Ch.ow_slice hr
   rw [e]; rfl
theorem wrong_of {wd : Nat} (h8 : wd ≤ 8) {l : List Int} (h : rwrongS (wd : Int) l = 0) : Go.Proofs.YtcmllllbmgcnlaaGreat.Ch.wrongS wd l = 0 := by
 unfold Go.Proofs.YtcmllllbmgcnlaaGreat.Ch.rwrongS at h
 rw [if_neg (by omega)] at h
 exact h
def OrdF (W w1 : World) (l : List Int) (wd g rn cv : Nat) (ovs : List Value) (rows : List (List Int)) : Prop :=
 ChainsOk l rows ∧ Rw w1 W.heap.size (.slice (some ⟨g, 0, none⟩) rn cv) ovs (rows.map (ordOf wd)) ∧ rows.length ≤ 257 ∧ ovs.length = rn ∧ (∀ w', Below w1.heap.size w1 w' → ∀ j u, ovs[j]? = some u → w'.cell? ((⟨g, 0, none⟩ : Addr).add j) = some u) ∧ (∀ u ∈ ovs, u.oneCell' = true) ∧ rn = rows.length
theorem orders_yes (W : World) (width : Int) (A : Option Addr) (c : Nat) (l : List Int) (h : Sl W A c l) (h0 : rwrongS width l = 0) :
  Calls Tryz.prog 35 #[.int .i64 width, .slice A l.length c] W fun e w1 => ∃ wd g rn cv ovs rows, width = (wd : Nat) ∧ wd ≤ 8 ∧ e = .returned (.tuple #[.slice (some ⟨g, 0, none⟩) rn cv, .int .i64 0]) ∧ Below W.heap.size W w1 ∧ rn ≤ 257 ∧ OrdF W w1 l wd g rn cv ovs rows := by
 refine (orders_calls width A c l W h).mono ?_
 rintro e w1 ⟨v, y, rfl, hy, hb1, hor⟩
 rw [h0] at hy
 subst hy
 obtain ⟨wd, ovs, rows, rfl, h8, hch, hrw, h257⟩ := (hor.resolve_left (fun h => h.1 rfl)).2
 obtain ⟨g, cv, rfl, hol, hcl, h1c⟩ := rw_slice hrw (by rw [List.length_map]; exact least_pos hch.least)
 rw [List.length_map] at hrw hol ⊢
 exact ⟨wd, g, rows.length, cv, ovs, rows, rfl, h8, rfl, hb1, h257, hch, hrw, h257, hol, hcl, h1c, rfl⟩
set_option maxHeartbeats 8000000 in
set_option maxRecDepth 100000 in
theorem rnew_yes (W : World) (width : Int) (A : Option Addr) (c : Nat) (l : List Int) (h : Sl W A c l) (h0 : rwrongS width l = 0) :
  Calls Tryz.prog 11 #[.int .i64 width, .slice A l.length c] W (MadeR W width) := by
 have hO := orders_yes W width A c l h h0
 have HZ := Aside0.mk h0
 obtain ⟨i0, hi0, hz0, hz1, hz2⟩ := info_parts infoT
 have HI := Aside0.mk (And.intro hi0 (And.intro hz0 (And.intro hz1 hz2)))
 clear h h0 hi0 hz0 hz1 hz2
 go_enter Tryz.func11, Tryz.ntmps11
 go_wp2_with (first
  | (go_at_call 35; go_loud (refine hO.mono ?_; clear hO; rintro e w1 ⟨wd, g, rn, cv, ovs, rows, rfl, h8, rfl, hb1, hrn2, hch⟩; have HB1 := Aside0.mk hb1; have HCH := Aside0.mk hch; have HPl := Aside0.mk (plain_calls w1 wd (by omega)); clear hb1 hch))
  | (go_at_call 36; refine HPl.out.mono ?_; rintro e w2 ⟨rfl, hb2, hp2⟩; have HB2 := Aside0.mk hb2; have HP2 := Aside0.mk hp2; clear hb2 hp2)
  | (at_builtin; go_loud (refine wpList_append_own_at _ rfl _ _ 44 rfl w2.heap.size 23 i0 (.slice none 0 0) 1 24 Tryz.underlying44 HI.out.1 HI.out.2.1 HI.out.2.2.1 HI.out.2.2.2 rfl (by decide) (.slice (some ⟨w2.heap.size, 0, none⟩) 1 1) 1 [.slice (some ⟨w1.heap.size, 0, none⟩) wd wd] rfl ⟨rfl, .inr ⟨w2.heap.size, 1, #[.slice (some ⟨w1.heap.size, 0, none⟩) wd wd], rfl, Nat.le_refl _, heap_alloc_new _ _, Nat.le_refl _, by decide, rfl, rfl⟩⟩ ⟨g, 0, none⟩ rn cv ovs rfl (by rw [Nat.mul_one]; exact HCH.out.2.2.2.1) (HCH.out.2.2.2.2.1 _ ((Since.mk HB2.out).alloc _).b) HCH.out.2.2.2.2.2.1 (by unfold maxLen; omega) (by omega) (by simp) ?_; intro v' w3 hown3 hg3 _ _; rw [Nat.add_comm 1 rn] at hown3; obtain ⟨g', cap', rfl⟩ := ownsRow_succ hown3; have HG3 := Aside0.mk hg3; have HO3 := Aside0.mk (orders_row h8 HCH.out.2.1 HB1.out HB2.out HP2.out rfl hg3 hown3 (by rw [List.length_map, ← HCH.out.2.2.2.2.2.2]; omega)); clear hown3 hg3))
  | (go_at_call 37; go_loud (have hW1 := HB1.out.size; have hW2 := HB2.out.size; have hW3 := HG3.out.size; refine (begin_calls (okO := fun k => W.heap.size ≤ k ∧ k < w3.heap.size) (os := plainO wd :: rows.map (ordOf wd)) (wd := wd) (Ao := some ⟨g', 0, none⟩) (co := cap') (by rw [show (plainO wd :: rows.map (ordOf wd)).length = rn + 1 from by simp [HCH.out.2.2.2.2.2.2]]; exact heap_alloc_new w3 _) (orders_os h8 (Go.Proofs.YtcmllllbmgcnlaaGreat.Rl.wrong_of h8 HZ.out) HCH.out.1 HCH.out.2.2.1) (by rw [show (plainO wd :: rows.map (ordOf wd)).length = rn + 1 from by simp [HCH.out.2.2.2.2.2.2]]; exact Kd.F_below HO3.out.2 (below_alloc (Below.refl _ _) _)) (by rw [show (plainO wd :: rows.map (ordOf wd)).length = rn + 1 from by simp [HCH.out.2.2.2.2.2.2]]; exact HO3.out.1) (fun h => by omega)).mono ?_; rintro e w5 ⟨rfl, hk5, m, bss, hm5, hb5, hR5⟩; have HR5 := Aside0.mk (And.intro hk5 (And.intro hm5 (And.intro hb5 hR5))); clear hk5 hm5 hb5 hR5)))
 go_ret2
 have hW1 := HB1.out.size
 have hW2 := HB2.out.size
 have hW3 := HG3.out.size
 simp at hW3
 obtain ⟨hk5, hm5, hb5, hR5⟩ := HR5.out
 have hsz : (w3.alloc (.cells #[.bool true, .int .i64 (wd : Int), .slice (some ⟨g', 0, none⟩) (rn + 1) cap', .slice none 0 0, .map none] 74)).heap.size = w3.heap.size + 1 := by simp
 have hb3 : Below W.heap.size W (w3.alloc (.cells #[.bool true, .int .i64 (wd : Int), .slice (some ⟨g', 0, none⟩) (rn + 1) cap', .slice none 0 0, .map none] 74)) := by
  have b2 := below_then HB1.out hW1 HB2.out
  have b3 := below_alloc b2 (.cells #[.slice (some ⟨w1.heap.size, 0, none⟩) wd wd] 23)
  exact below_alloc (b3.grown HG3.out (by simp; omega) fun j e => by
   have e' : w2.heap.size = j := by simpa [Value.ownBlock] using e
   omega) _
 refine ⟨w3.heap.size, wd, _, m, bss, rfl, rfl, hk5.below_of hb3 (fun k hk e => by omega), by omega, by omega, fun b hb => by have := hb5 b hb; omega, hR5.mono (fun k hk => ?_) (fun h => h.2.1 rfl) (fun h => h.2.2.1 rfl) (fun b hb h => h.2.2.2 hb)⟩
 rcases hk with hk | hk
 ·exact ⟨hk.1.1, by have := hk.1.2; omega, by have := hk.1.2; omega, fun h => by have := hb5 k h; have := hk.1.2; omega⟩
 ·exact ⟨by omega, by have := hk.1; omega, hk.2.1, hk.2.2⟩
end Go.Proofs.YtcmllllbmgcnlaaGreat.Rl
end
