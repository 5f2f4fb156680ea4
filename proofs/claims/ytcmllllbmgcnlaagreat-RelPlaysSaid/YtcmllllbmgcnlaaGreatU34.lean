/- Own texts, joined and cut to what the claim stands on: RlAsset, RlRefUpd, RlRFind, RlRMerge, RlMade, RlOwn. -/
import Derived.BigRegion
import Derived.Deep.RegionHeld3
import Derived.Test.YtcmllllbmgcnlaaGreatU32
import Derived.Test.YtcmllllbmgcnlaaGreatU33
import Derived.Test.YtcmllllbmgcnlaaGreatU31
import Derived.Test.YtcmllllbmgcnlaaGreatU28
section
namespace Go.Proofs.YtcmllllbmgcnlaaGreat.Rl
open Go.RowKit Go.Lib Go.Shelf Go.Proofs.YtcmllllbmgcnlaaGreat.G Go.Proofs.YtcmllllbmgcnlaaGreat.Tup Go.Proofs.YtcmllllbmgcnlaaGreatW.PrintWords Go.Proofs.YtcmllllbmgcnlaaGreatW.PrintLast Go.Proofs.YtcmllllbmgcnlaaGreatW.PrintMore
open Go.Proofs.YtcmllllbmgcnlaaGreat.Ch (rwrongS)
set_option linter.unusedVariables false
set_option linter.unusedSimpArgs false
theorem RelAt.others {ok : Nat → Prop} {W W1 : World} {br wd : Nat} {os : List Tp} {R : List Row} {m : Nat} {bss : List Nat} (h : RelAt ok W br wd os R m bss) {row : Option Nat} (hg : W.grownBy W1 row) (hr : ∀ r, row = some r → r ≠ m ∧ ∃ o : Obj, W.heap[r]? = some o ∧ o.isCells = false) : RelAt ok W1 br wd os R m bss := by
 obtain ⟨Ao, co, As, cs, hp, h1, h2, h3, h4⟩ := h.hp
 have hr' : ∀ r, row = some r → ∃ o : Obj, W.heap[r]? = some o ∧ o.isCells = false := fun r e => (hr r e).2
 refine ⟨⟨Ao, co, As, cs, (isCells_kept ⟨_, hp, rfl⟩ hg hr').1.trans hp, h1, h2, Kd.F_mono (Kd.F_step (F_cells kt_mono h3) fun k hk _ => (isCells_kept hk.2 hg hr').1) fun k hk => hk.1, Kd.F_mono (Kd.F_step (F_cells kn_mono h4) fun k hk _ => (isCells_kept hk.2 hg hr').1) fun k hk => hk.1⟩, h.hos, h.hR, h.map.step (hg.block m h.map.lt fun e => (hr m e.symm).1 rfl), h.len, fun j h1 h2 => ?_, h.nd, h.nb, h.nr, h.nm⟩
 obtain ⟨A, c, rt, T, hS, hT⟩ := h.sets j h1 h2
 exact ⟨A, c, rt, T, hS.others hg hr', hT⟩
theorem putC_nf2 {wd : Nat} {R : List Row} {t : Tp} {h k : Int} (h1 : rightB h = true) (h2 : rightB k = true) : putC wd R t (nf h) (nf k) = (putTo wd R t (h, k), putAns wd R t) := by
 unfold putC
 rw [heightF_nf h1 h2]
 by_cases hl : t.length ≠ wd
 ·rw [if_pos hl]; unfold putTo putAns; rw [if_pos hl, if_pos hl]
 ·rw [if_neg hl]; rfl
def RelF (F : Nat → Prop) (W : World) (b wd : Nat) (R : List Row) : Prop :=
 ∃ (ok : Nat → Prop) (os : List Tp) (m : Nat) (bss : List Nat), RelAt ok W b wd os R m bss ∧ ∀ k, (ok k ∨ k = b ∨ k = m ∨ k ∈ bss) → F k
section
variable {F F' : Nat → Prop} {W W1 : World} {b wd : Nat} {R : List Row}
theorem RelF.mono (h : RelF F W b wd R) (hm : ∀ k, F k → F' k) : RelF F' W b wd R := by
 obtain ⟨ok, os, m, bss, h1, h2⟩ := h
 exact ⟨ok, os, m, bss, h1, fun k hk => hm k (h2 k hk)⟩
theorem RelF.step (h : RelF F W b wd R) (hm : ∀ k, F k → k < W.heap.size → W1.heap[k]? = W.heap[k]?) : RelF F W1 b wd R := by
 obtain ⟨ok, os, m, bss, h1, h2⟩ := h
 exact ⟨ok, os, m, bss, h1.step fun k hk => hm k (h2 k hk), h2⟩
theorem RelF.since (h : RelF F W b wd R) (hs : Since W W1) : RelF F W1 b wd R := h.step fun k _ hk => hs.b.block k hk
theorem RelF.bound (h : RelF F W b wd R) : RelF (fun k => F k ∧ k < W.heap.size) W b wd R := by
 obtain ⟨ok, os, m, bss, h1, h2⟩ := h
 refine ⟨_, os, m, bss, h1.bound, fun k hk => ?_⟩
 rcases hk with hk | hk | hk | hk
 ·exact ⟨h2 k (.inl hk.1), hk.2⟩
 ·exact ⟨h2 k (.inr (.inl hk)), hk ▸ h1.lt⟩
 ·exact ⟨h2 k (.inr (.inr (.inl hk))), hk ▸ h1.map.lt⟩
 ·exact ⟨h2 k (.inr (.inr (.inr hk))), h1.blt k hk⟩
theorem RelF.self (h : RelF F W b wd R) : F b := by obtain ⟨ok, os, m, bss, _, h2⟩ := h; exact h2 b (.inr (.inl rfl))
theorem RelF.rows (h : RelF F W b wd R) : RowsOk wd R := by obtain ⟨ok, os, m, bss, h1, _⟩ := h; exact h1.hR
theorem RelF.w8 (h : RelF F W b wd R) : wd ≤ 8 := by obtain ⟨ok, os, m, bss, h1, _⟩ := h; exact h1.hos.w8
theorem RelF.put (h : RelF F W b wd R) (hF : ∀ k, W.heap.size ≤ k → F k) (n : Int × Int) (h1 : rightB n.1 = true) (h2 : rightB n.2 = true) (A : Option Addr) (c : Nat) (t : Tp) (hs : ∀ w', KeptS F W w' → Sl w' A c t) :
  Calls Tryz.prog 13 #[.pointer (some ⟨b, 0, none⟩), .complex .f64 (nf n.1) (nf n.2), .slice A t.length c] W fun e w' => e = .returned (.tuple #[.bool (putAns wd R t).1, .int .i64 (putAns wd R t).2]) ∧ RelF F w' b wd (putTo wd R t n) ∧ KeptS F W w' := by
 obtain ⟨ok, os, m, bss, hR, hk⟩ := h
 refine (rput_calls hR (nf n.1) (nf n.2) A c t (fun w' hw => hs w' (hw.mono fun k hk' => hk k (.inr (.inr hk'))))).mono fun e w' hp => ?_
 obtain ⟨e1, e2, e3⟩ := hp
 rw [putC_nf2 h1 h2] at e1 e2
 exact ⟨e1, ⟨_, os, m, bss, e2, fun k hk' => hk'.elim (fun hk' => hk'.elim (fun h => hk k (.inl h)) (hF k)) fun h => hk k (.inr h)⟩, e3.mono fun k hk' => hk k (.inr (.inr hk'))⟩
end
end Go.Proofs.YtcmllllbmgcnlaaGreat.Rl
end
section
namespace Go.Proofs.YtcmllllbmgcnlaaGreat.Rl
open Go.RowKit Go.Lib Go.Shelf Go.Proofs.YtcmllllbmgcnlaaGreat.G Go.Proofs.YtcmllllbmgcnlaaGreat.Tup Go.Proofs.YtcmllllbmgcnlaaGreatW.PrintWords Go.Proofs.YtcmllllbmgcnlaaGreatW.PrintLast Go.Proofs.YtcmllllbmgcnlaaGreatW.PrintMore
set_option linter.unusedVariables false
set_option linter.unusedSimpArgs false
theorem updF_set {t : Tp} {n : Int × Int} : ∀ {R : List Row} {q : Nat} (hq : q < R.length), (keys R).Nodup → (R[q]).1 = t → updF R t n = R.set q (t, n)
 | [], q, hq, _, _ => by simp at hq
 | x :: R, 0, hq, _, h => by
  simp only [List.getElem_cons_zero] at h
  simp [updF, h]
 | x :: R, q + 1, hq, hn, h => by
  simp only [List.getElem_cons_succ] at h
  rw [keys, List.map_cons, List.nodup_cons] at hn
  have hne : ¬ x.1 = t := fun e => hn.1 (by rw [e, ← h]; exact List.mem_map.2 ⟨R[q]'(by simpa using hq), List.getElem_mem _, rfl⟩)
  simp only [updF, if_neg hne, List.set_cons_succ]
  rw [updF_set (by simpa using hq) hn.2 h]
theorem flat3_set {x y : Int} : ∀ {es : List Elt} {q : Nat} (hq : q < es.length), ((es.flatMap Elt.enc3).set (q * 3 + 1) (.int .i64 x)).set (q * 3 + 2) (.int .i64 y) = (es.set q { es[q] with n := (x, y) }).flatMap Elt.enc3
 | [], q, hq => by simp at hq
 | e :: es, 0, hq => by simp [Elt.enc3, Elt.v]
 | e :: es, q + 1, hq => by
  have hq' : q < es.length := by simpa using hq
  have e1 : (q + 1) * 3 + 1 = e.enc3.length + (q * 3 + 1) := by simp [Elt.enc3]; omega
  have e2 : (q + 1) * 3 + 2 = e.enc3.length + (q * 3 + 2) := by simp [Elt.enc3]; omega
  rw [List.flatMap_cons, e1, e2, List.set_append_right _ _ (by omega), Nat.add_sub_cancel_left, List.set_append_right _ _ (by omega), Nat.add_sub_cancel_left, flat3_set hq', List.set_cons_succ, List.flatMap_cons]
  rfl
theorem rput7_turn {ok : Nat → Prop} {W wd : World} {base b j wn : Nat} {g : Nat} {c : Nat} {es : List Elt} {R : List Row} (h : Ref7 ok W base b j wn (some ⟨g, 0, none⟩) c es R) (hbb : ¬ ok b) {t : Tp} {n : Int × Int} (hm : t ∈ keys R) (hn1 : rightB n.1 = true) (hn2 : rightB n.2 = true) {q : Nat} (hq : q < R.length) (hqe : (R[q]).1 = t) (hd : Since W wd) :
  (∃ A' c' es', Ref7 (Plus ok W.heap.size) ((wd.setCell ⟨g, q * 3 + 1, none⟩ (.int .i64 n.1)).setCell ⟨g, q * 3 + 2, none⟩ (.int .i64 n.2)) base b j wn A' c' es' (updF R t n)) ∧ PAfter (fun k => (Value.slice (some ⟨g, 0, none⟩) R.length c).ownBlock = some k) b j W ((wd.setCell ⟨g, q * 3 + 1, none⟩ (.int .i64 n.1)).setCell ⟨g, q * 3 + 2, none⟩ (.int .i64 n.2)) := by
 have hgk : (Value.slice (some ⟨g, 0, none⟩) R.length c).ownBlock = some g := by
  rcases h.own.2 with ⟨e, _⟩ | ⟨g', cap, cur, e, _⟩
  ·cases e
  ·simp [Value.ownBlock]
 have hgb : g ≠ b := fun e => hbb (e ▸ h.ok0 g hgk)
 have hlen := h.len
 have hq' : q < es.length := by omega
 have hd' := h.since hd
 obtain ⟨o1, _⟩ := hd'.own.stored (q * 3 + 1) (.int .i64 n.1)
 obtain ⟨o2, _⟩ := o1.stored (q * 3 + 2) (.int .i64 n.2)
 have hst : ∀ k, k ≠ g → ((wd.setCell ⟨g, q * 3 + 1, none⟩ (.int .i64 n.1)).setCell ⟨g, q * 3 + 2, none⟩ (.int .i64 n.2)).heap[k]? = wd.heap[k]? := fun k hk => by
  rw [Below.heap_setCell _ _ _ _ hk, Below.heap_setCell _ _ _ _ hk]
 have hbk := hst b hgb.symm
 have hu := updF_set (n := n) hq h.hR.nodup hqe
 have hul : (updF R t n).length = R.length := by rw [hu, List.length_set]
 rw [flat3_set hq'] at o2
 have hty : ∀ e ∈ es, ∀ k, e.v.ownBlock = some k → k ≠ g := fun e he k hk e' => by
  obtain ⟨c1, g1⟩ := own_typed (h.el e he) k hk
  obtain ⟨c2, g2⟩ := own_typed h.own g hgk
  rw [e', g2] at g1
  injection g1 with g1
  injection g1 with _ g3 _
  exact absurd g3 (by decide)
 have hEl : ∀ e ∈ es.set q { es[q] with n := (n.1, n.2) }, ∃ e0 ∈ es, e.v = e0.v ∧ e.t = e0.t := fun e he => by
  rcases List.mem_or_eq_of_mem_set he with he | rfl
  ·exact ⟨e, he, rfl, rfl⟩
  ·exact ⟨es[q], List.getElem_mem _, rfl, rfl⟩
 refine ⟨⟨some ⟨g, 0, none⟩, c, es.set q { es[q] with n := (n.1, n.2) }, ⟨?_, ?_, ?_, ?_, ?_, ?_, ?_, ?_, h.h8, h.hR.upd hm hn1 hn2⟩⟩, ?_, fun i _ v hv => ?_, fun i hb => ?_⟩
 ·exact (World.cell?_of_block hbk).trans hd'.c0
 ·rw [hul]; exact (World.cell?_of_block hbk).trans hd'.c1
 ·simp only [World.frozen?, hbk]; exact hd'.fz
 ·rw [hul]; exact o2
 ·rw [hul]; exact fun k hk => .inl (h.ok0 k hk)
 ·intro e he
  obtain ⟨e0, he0, e1, e2⟩ := hEl e he
  have := own_move (w1 := (wd.setCell ⟨g, q * 3 + 1, none⟩ (.int .i64 n.1)).setCell ⟨g, q * 3 + 2, none⟩ (.int .i64 n.2)) (hd'.el e0 he0) fun k hk => hst k (hty e0 he0 k hk)
  unfold Elt.At
  rw [e1, e2]
  exact this
 ·intro e he k hk
  obtain ⟨e0, he0, e1, _⟩ := hEl e he
  rw [e1] at hk
  exact .inl (h.okE e0 he0 k hk)
 ·rw [List.map_set, h.row, hu]
  congr 1
  have : (es[q]).row = R[q] := by simp only [← h.row, List.getElem_map]
  show ((es[q]).t, (n.1, n.2)) = (t, n)
  rw [← hqe, ← this]
  rfl
 ·exact (KeptS.below hd.b).trans (((KeptS.one (Kept1.set g wd (q * 3 + 1) _)).trans (KeptS.one (Kept1.set g _ (q * 3 + 2) _))).mono fun k hk => .inr (hk ▸ hgk))
 ·exact (World.cell?_of_block hbk).trans (pw_cell_below hd.b hv)
 ·simp only [World.frozen?, hbk]; exact hd.b.frozen (p := ⟨b, i, none⟩) hb
theorem PAfter.after {S : Nat → Prop} {b j : Nat} {W w w' : World} (h : PAfter S b j W w) (hs : Since w w') : PAfter S b j W w' :=
 ⟨h.k.trans (.below hs.b), fun i hi v hv => pw_cell_below hs.b (h.c i hi v hv), fun i hb => (hs.b.frozen (p := ⟨b, i, none⟩) (Nat.lt_of_lt_of_le hb h.k.size)).trans (h.f i hb)⟩
set_option maxHeartbeats 8000000 in
set_option maxRecDepth 100000 in
theorem rput7_upd {ok : Nat → Prop} (W : World) {base b j wd : Nat} {A : Option Addr} {c : Nat} {es : List Elt} {R : List Row} (h : Ref7 ok W base b j wd A c es R) (hbb : ¬ ok b) (At : Option Addr) (ct : Nat) (t : Tp) (st : Sl W At ct t) (n : Int × Int) (hn1 : rightB n.1 = true) (hn2 : rightB n.2 = true)
  (hm : t ∈ keys R) (o : Int × Int) (ho : lookF R t = some o) (hbt : betterB n.1 n.2 o.1 o.2 = true) :
  Calls Tryz.prog 27 #[.pointer (some ⟨b, j, none⟩), .int .i64 n.1, .int .i64 n.2, .slice At t.length ct] W (RPut7 ok W base b j wd A c R t n) := by
 have hA := rat7_calls W h At ct t st
 have h0 := h.c0
 have h1 := h.c1
 have hfz := h.fz
 obtain ⟨n1, n2⟩ := n
 obtain ⟨rn, hrn⟩ : ∃ rn, R.length = rn := ⟨_, rfl⟩
 have hl : t.length = wd := h.hR.key hm
 have ha : Aside0 (putAns wd R t = (false, 0) ∧ putTo wd R t (n1, n2) = updF R t (n1, n2)) := ⟨by unfold putAns; rw [if_neg (by omega), if_pos hm], by unfold putTo; rw [if_neg (by omega), ho]; simp only [hbt, if_true]⟩
 obtain ⟨q, hq⟩ : ∃ q, q = ratL (plainO wd) (keys R) t := ⟨_, rfl⟩
 rw [← hq, decide_eq_true hm] at hA
 obtain ⟨hqn, hqe⟩ := (rhas_iff (h.hR.fit h.h8) h.hR.up (by rw [plainO_len]; exact hl) (plainO_rt h.h8)).2 hm
 simp only [← hq] at hqn hqe
 have hqr : q < R.length := by simpa [keys] using hqn
 have hqk : (R[q]).1 = t := by simpa [keys] using hqe
 have hqi : q < rn := by omega
 have hqo := (lookF_of h.hR.nodup hqr (t := t) hqk).symm.trans ho
 obtain ⟨ad, Ai, ci, rfl, e0, e1, e2, hsl⟩ := kr_at h.C q hqr
 obtain ⟨g, rfl⟩ : ∃ g, ad = ⟨g, 0, none⟩ := by
  rcases h.own.2 with ⟨e, _⟩ | ⟨g, cap, cur, e, _⟩
  ·cases e
  ·injection e with e _ _; injection e with e; exact ⟨g, e⟩
 have hgk : (Value.slice (some ⟨g, 0, none⟩) R.length c).ownBlock = some g := by
  rcases h.own.2 with ⟨e, _⟩ | ⟨g', cap, cur, e, _⟩
  ·cases e
  ·simp [Value.ownBlock]
 have hgb : g ≠ b := fun e => hbb (e ▸ h.ok0 g hgk)
 have hgb' : b ≠ g := fun e => hgb e.symm
 have hqo' : (R[q]).2 = o := by injection hqo
 rw [hqo'] at e1 e2
 rw [Addr.add_lit, Nat.zero_add] at e0 e1 e2
 dsimp only at e1 e2
 obtain ⟨xl, hxl⟩ : ∃ xl, xl = (R[q]).1.length := ⟨_, rfl⟩
 rw [← hxl] at e0
 obtain ⟨o1, o2⟩ := o
 dsimp only at e1 e2 hbt
 rw [hrn] at h1
 have hfr := fun i => h.own.frozenAt i
 have hglt : g < W.heap.size := Tup.own_lt h.own g hgk.symm
 have HQ := Aside0.mk (fun (w : World) (hw : Since W w) => show ((w.cell? ⟨b, j, none⟩ = some (.int .i64 (wd : Int)) ∧ w.cell? ⟨b, j + 1, none⟩ = some (.slice (some ⟨g, 0, none⟩) rn c)) ∧ w.cell? ⟨g, q * 3, none⟩ = some (.slice Ai xl ci) ∧ w.cell? ⟨g, q * 3 + 1, none⟩ = some (.int .i64 o1) ∧ w.cell? ⟨g, q * 3 + 2, none⟩ = some (.int .i64 o2)) ∧ w.frozen? ⟨g, q * 3 + 1, none⟩ = false ∧ w.frozen? ⟨g, q * 3 + 2, none⟩ = false from ⟨⟨⟨pw_cell_below hw.b h0, pw_cell_below hw.b h1⟩, pw_cell_below hw.b e0, pw_cell_below hw.b e1, pw_cell_below hw.b e2⟩, (hw.b.frozen (p := ⟨g, q * 3 + 1, none⟩) hglt).trans (hfr _), (hw.b.frozen (p := ⟨g, q * 3 + 2, none⟩) hglt).trans (hfr _)⟩)
 have HA := Aside0.mk hA
 have HF := Aside0.mk (fun (w : World) (hw : Since W w) => rput7_turn (n := (n1, n2)) h hbb hm hn1 hn2 hqr hqk hw)
 have hlI : (t.length : Int) = (wd : Int) := by omega
 have e3 : ((t.length : Int) != (wd : Int)) = false := by simp [hl]
 have HBT := Aside0.mk hbt
 have HRN := Aside0.mk hrn
 clear h hA hm hq hqn hqe hqr hqo hqo' hxl hsl ho e0 e1 e2 hl hlI hqk hfr hglt hgk hfz hbt hrn
 rcases (show (n1 < o1) ∨ (¬ n1 < o1 ∧ n1 = o1 ∧ n2 < o2) from by
  have := HBT.out
  simp only [betterB, Bool.or_eq_true, decide_eq_true_eq, Bool.and_eq_true] at this
  omega) with b1 | ⟨b1, b2, b3⟩
 ·have d1 : decide (n1 < o1) = true := decide_eq_true b1
  clear b1
  go_enter Tryz.func27, Tryz.ntmps27
  go_wp2_with (first
   | (go_at_call 56; refine HA.out.mono ?_; clear HA; rintro e w1 ⟨rfl, hs1⟩; obtain ⟨⟨⟨r0, r1⟩, r2, r3, r4⟩, f1, f2⟩ := HQ.out w1 hs1; obtain ⟨⟨⟨s0, s1⟩, s2, s3, s4⟩, f3, f4⟩ := HQ.out (w1.alloc (.cells #[.slice Ai xl ci, .int .i64 o1, .int .i64 o2] 61)) (hs1.alloc _); have HS1 := Aside0.mk hs1; clear hs1))
  go_region
  all_goals go_wp2
  all_goals go_ret2
  all_goals
   obtain ⟨⟨A', c', es', hR⟩, hP⟩ := HF.out _ (HS1.out.alloc (.cells #[.slice Ai xl ci, .int .i64 o1, .int .i64 o2] 61))
   exact ⟨by rw [ha.out.1]; rfl, ⟨A', c', es', by rw [ha.out.2]; exact hR.since (Since.refl _).drew⟩, hP.after (Since.refl _).drew⟩
 ·have d1 : decide (n1 < o1) = false := decide_eq_false b1
  subst b2
  have d2 : (n1 == n1) = true := by simp
  have d3 : decide (n2 < o2) = true := decide_eq_true b3
  clear b1 b3
  go_enter Tryz.func27, Tryz.ntmps27
  go_wp2_with (first
   | (go_at_call 56; refine HA.out.mono ?_; clear HA; rintro e w1 ⟨rfl, hs1⟩; obtain ⟨⟨⟨r0, r1⟩, r2, r3, r4⟩, f1, f2⟩ := HQ.out w1 hs1; obtain ⟨⟨⟨s0, s1⟩, s2, s3, s4⟩, f3, f4⟩ := HQ.out (w1.alloc (.cells #[.slice Ai xl ci, .int .i64 n1, .int .i64 o2] 61)) (hs1.alloc _); have HS1 := Aside0.mk hs1; clear hs1))
  go_region
  all_goals go_wp2
  all_goals go_ret2
  all_goals
   obtain ⟨⟨A', c', es', hR⟩, hP⟩ := HF.out _ (HS1.out.alloc (.cells #[.slice Ai xl ci, .int .i64 n1, .int .i64 o2] 61))
   exact ⟨by rw [ha.out.1]; rfl, ⟨A', c', es', by rw [ha.out.2]; exact hR.since (Since.refl _).drew⟩, hP.after (Since.refl _).drew⟩
theorem rput7_calls {ok : Nat → Prop} (W : World) {base b j wd : Nat} {A : Option Addr} {c : Nat} {es : List Elt} {R : List Row} (h : Ref7 ok W base b j wd A c es R) (hbb : ¬ ok b) (hba : base ≤ W.heap.size) (At : Option Addr) (ct : Nat) (t : Tp) (st : Sl W At ct t) (n : Int × Int) (hn1 : rightB n.1 = true) (hn2 : rightB n.2 = true) :
  Calls Tryz.prog 27 #[.pointer (some ⟨b, j, none⟩), .int .i64 n.1, .int .i64 n.2, .slice At t.length ct] W (RPut7 ok W base b j wd A c R t n) := by
 by_cases hl : t.length = wd
 ·by_cases hm : t ∈ keys R
  ·obtain ⟨o, ho⟩ := lookF_some hm
   cases hbt : betterB n.1 n.2 o.1 o.2
   ·exact rput7_not W h At ct t st n (.inr (.inl ⟨hm, fun o' ho' => by rw [ho] at ho'; cases ho'; exact hbt⟩))
   ·exact rput7_upd W h hbb At ct t st n hn1 hn2 hm o ho hbt
  ·by_cases hf : R.length < 1024
   ·exact rput7_ins W h hbb hba At ct t st n hn1 hn2 hl hm hf
   ·exact rput7_not W h At ct t st n (.inr (.inr ⟨hl, hm, by omega⟩))
 ·exact rput7_not W h At ct t st n (.inl hl)
def RowsC (w : World) (n : Nat) (ys : List Row) (e : Ending) (w' : World) : Prop := ∃ A c, e = .returned (.slice A n c) ∧ n ≤ c ∧ Kd.C KR w' A n ys ∧ Since w w'
theorem shr_bit0 (cols : Int) (h : 0 ≤ cols) (i : Nat) : (bits BinOp.and IntKind.i64 (cols / 2 ^ i) 1 == 0) = !cols.toNat.testBit i := by
 have h1 := shr_bit cols h i
 obtain ⟨m, rfl⟩ : ∃ m : Nat, cols = (m : Int) := ⟨cols.toNat, by omega⟩
 have e : ((m : Int) / 2 ^ i) = ((m / 2 ^ i : Nat) : Int) := by
  rw [Int.natCast_ediv]; simp
 rw [e] at h1 ⊢
 rw [and_bit _ (Int.natCast_nonneg _)] at h1 ⊢
 rw [← h1, Int.toNat_natCast]
 have : m / 2 ^ i % 2 = 0 ∨ m / 2 ^ i % 2 = 1 := by omega
 rcases this with h | h <;> rw [h] <;> rfl
def preB (q : Nat) (cols : Int) (t x : Tp) : Bool := (List.range q).all fun (c : Nat) => !cols.toNat.testBit c || decide (rd x (c : Int) = rd t (c : Int))
theorem preB_succ (q : Nat) (cols : Int) (t x : Tp) : preB (q + 1) cols t x = (preB q cols t x && (!cols.toNat.testBit q || decide (rd x (q : Int) = rd t (q : Int)))) := by
 unfold preB
 rw [List.range_succ, List.all_append]
 simp
theorem flat3_cells {es : List Elt} {i : Nat} (hi : i < es.length) : (es.flatMap Elt.enc3)[i * 3]? = some (es[i]).v ∧ (es.flatMap Elt.enc3)[i * 3 + 1]? = some (.int .i64 (es[i]).n.1) ∧ (es.flatMap Elt.enc3)[i * 3 + 2]? = some (.int .i64 (es[i]).n.2) := by
 refine ⟨?_, ?_, ?_⟩
 ·rw [flat_get3, show i * 3 / 3 = i from by omega, show i * 3 % 3 = 0 from by omega, List.getElem?_eq_getElem hi]; rfl
 ·rw [flat_get3, show (i * 3 + 1) / 3 = i from by omega, show (i * 3 + 1) % 3 = 1 from by omega, List.getElem?_eq_getElem hi]; rfl
 ·rw [flat_get3, show (i * 3 + 2) / 3 = i from by omega, show (i * 3 + 2) % 3 = 2 from by omega, List.getElem?_eq_getElem hi]; rfl
set_option maxHeartbeats 8000000 in
set_option maxRecDepth 100000 in
theorem rrfind_early {ok : Nat → Prop} (W : World) {base b j wd : Nat} {A : Option Addr} {c : Nat} {es : List Elt} {R : List Row} (h : Ref7 ok W base b j wd A c es R) (cols : Int) (At : Option Addr) (ct : Nat) (t : Tp) (hno : ¬ (t.length = wd ∧ 0 ≤ cols ∧ cols < 2 ^ wd)) :
  Calls Tryz.prog 57 #[.pointer (some ⟨b, j, none⟩), .int .i64 cols, .slice At t.length ct] W (RowsC W 0 []) := by
 have h0 := h.c0
 have h8 := h.h8
 by_cases hl : t.length = wd
 ·have e1 : ((t.length : Int) != (wd : Int)) = false := by simp [hl]
  by_cases hc : cols < 0
  ·have e2 : decide (cols < 0) = true := decide_eq_true hc
   clear h hl hno
   go_enter Tryz.func57, Tryz.ntmps57
   go_wp2
   go_ret
   exact ⟨none, 0, rfl, Nat.le_refl _, Kd.C_nil KR W, Since.refl _⟩
  ·have e2 : decide (cols < 0) = false := decide_eq_false hc
   have e3 : (cols / 2 ^ wd != 0) = true := by
    have hp : (0 : Int) < 2 ^ wd := Int.pow_pos (by decide)
    have hge : (2 : Int) ^ wd ≤ cols := by
     by_cases hlt : cols < 2 ^ wd
     ·exact absurd ⟨hl, by omega, hlt⟩ hno
     ·omega
    have : 1 ≤ cols / 2 ^ wd := (Int.le_ediv_iff_mul_le hp).2 (by omega)
    simp; omega
   have hwd : (0 : Int) ≤ (wd : Int) := by omega
   clear h hl hno
   go_enter Tryz.func57, Tryz.ntmps57
   go_wp2
   go_ret
   exact ⟨none, 0, rfl, Nat.le_refl _, Kd.C_nil KR W, Since.refl _⟩
 ·have e1 : ((t.length : Int) != (wd : Int)) = true := bne_iff_ne.2 (by omega)
  clear h hl hno
  go_enter Tryz.func57, Tryz.ntmps57
  go_wp2
  go_ret
  exact ⟨none, 0, rfl, Nat.le_refl _, Kd.C_nil KR W, Since.refl _⟩
set_option maxHeartbeats 16000000 in
set_option maxRecDepth 100000 in
theorem rrfind_main {ok : Nat → Prop} (W : World) {base b j wd : Nat} {A : Option Addr} {c : Nat} {es : List Elt} {R : List Row} (h : Ref7 ok W base b j wd A c es R) (cols : Int) (At : Option Addr) (ct : Nat) (t : Tp) (st : Sl W At ct t) (hl : t.length = wd) (hc0 : 0 ≤ cols) (hc1 : cols < 2 ^ wd) :
  Calls Tryz.prog 57 #[.pointer (some ⟨b, j, none⟩), .int .i64 cols, .slice At t.length ct] W (RowsC W (findL wd R cols t).length (findL wd R cols t)) := by
 have h0 := h.c0
 have h1 := h.c1
 have h8 := h.h8
 obtain ⟨n, hn⟩ : ∃ n, n = R.length := ⟨_, rfl⟩
 rw [← hn] at h1
 have hlen : es.length = n := by rw [h.len, hn]
 have hnl : n ≤ 1024 := by rw [hn]; exact h.hR.le
 obtain ⟨i0, hi, hz0, hz1, hz2⟩ := info_parts infoW
 have HI0 := Aside0.mk (And.intro hi (And.intro hz0 (And.intro hz1 hz2)))
 obtain ⟨sel, hsel⟩ : ∃ sel : Nat → List Elt, sel = fun i => (es.take i).filter fun e => agreeB wd cols t e.t := ⟨_, rfl⟩
 have e1 : ((wd : Int) != (wd : Int)) = false := by simp
 have e2 : decide (cols < 0) = false := decide_eq_false (by omega)
 have e3 : (cols / 2 ^ wd != 0) = false := by rw [Int.ediv_eq_zero_of_lt hc0 hc1]; rfl
 have hwd : (0 : Int) ≤ (wd : Int) := by omega
 have hOwn := h.own
 rw [← hn] at hOwn
 have HOW := Aside0.mk (own_reads hOwn)
 have HFIN := Aside0.mk (show (sel n).map Elt.row = findL wd R cols t from by
  rw [hsel]
  show ((es.take n).filter _).map _ = _
  rw [List.take_of_length_le (by omega), ← h.row]
  unfold findL
  rw [if_pos ⟨hl, hc0, hc1⟩, List.filter_map]
  rfl)
 have HH := Aside0.mk h
 have HST := Aside0.mk st
 have HL := Aside0.mk hl
 have HLE := Aside0.mk hlen
 have HSE := Aside0.mk hsel
 have HC := Aside0.mk (And.intro hc0 hc1)
 have HN := Aside0.mk hn
 have HW0 := Aside0.mk (And.intro h0 h1)
 rw [hl]
 clear h st hl hlen hsel hn hi hz0 hz1 hz2 hc1 hOwn
 go_enter Tryz.func57, Tryz.ntmps57
 go_wp2_with fail
 clear h0 h1 e1 e2 e3
 go_loopg [7, 8] n (fun gk v7 v8 wr => ∃ (i m : Nat) (A7 : Option Addr) (c7 : Nat), v8 = .int .i64 (i : Int) ∧ v7 = .slice A7 m c7 ∧ Aside0 (i + gk = n) ∧ Aside0 (m = (sel i).length ∧ wr.ownsRow W.heap.size 61 3 (.slice A7 m c7) m ((sel i).flatMap Elt.enc3)) ∧ Aside0 (Since W wr))
 case atStart => exact ⟨0, 0, none, 0, rfl, rfl, ⟨by omega⟩, ⟨by rw [HSE.out]; rfl, by rw [HSE.out]; exact World.ownsRow_nil _ _ _ _⟩, ⟨Since.refl _⟩⟩
 case round =>
  obtain ⟨i, m, A7, c7, rfl, rfl, HI, HO, HS⟩ := hrel
  have h0 := pw_cell_below HS.out.b HW0.out.1
  have h1 := pw_cell_below HS.out.b HW0.out.2
  by_cases hi : i < n
  ·have hid : decide (i < n) = true := decide_eq_true hi
   have hii : (i : Int) < (n : Int) := by omega
   have hie : i < es.length := by rw [HLE.out]; exact hi
   obtain ⟨g, rfl⟩ : ∃ g, A = some ⟨g, 0, none⟩ := by
    rcases HH.out.own.2 with ⟨_, hz⟩ | ⟨g, cap, cur, e, _⟩
    ·have := HN.out; omega
    ·injection e with e _ _; exact ⟨g, e⟩
   obtain ⟨x0, x1, x2⟩ := flat3_cells hie
   have c0' := HOW.out.2 _ rfl _ _ x0
   have c1' := HOW.out.2 _ rfl _ _ x1
   have c2' := HOW.out.2 _ rfl _ _ x2
   rw [Addr.add_lit, Nat.zero_add] at c0' c1' c2'
   obtain ⟨e, he⟩ : ∃ e, e = es[i] := ⟨_, rfl⟩
   rw [← he] at c0' c1' c2'
   have hem : e ∈ es := by rw [he]; exact List.getElem_mem _
   have hsl : Sl W e.A e.c e.t := own_sl (HH.out.el e hem)
   have hel : e.t.length = wd := HH.out.hR.wd e.row (by rw [← HH.out.row]; exact List.mem_map.2 ⟨e, hem, rfl⟩)
   have hseli : sel (i + 1) = sel i ++ (if agreeB wd cols t e.t then [e] else []) := by
    rw [HSE.out]
    show (es.take (i + 1)).filter _ = (es.take i).filter _ ++ _
    rw [List.take_succ_eq_append_getElem hie, List.filter_append, ← he]
    cases ha : agreeB wd cols t e.t <;> simp [ha]
   have HSI := Aside0.mk hseli
   obtain ⟨Ae, ce, te, n1, n2⟩ := e
   simp only [Elt.v] at c0'
   dsimp only at hsl hel c1' c2' HSI
   rw [hel] at c0'
   have HE := Aside0.mk (And.intro hsl hel)
   have HKP := Aside0.mk (fun (w : World) (hw : Since W w) => show w.cell? ⟨g, i * 3, none⟩ = some (.slice Ae wd ce) ∧ w.cell? ⟨g, i * 3 + 1, none⟩ = some (.int .i64 n1) ∧ w.cell? ⟨g, i * 3 + 2, none⟩ = some (.int .i64 n2) ∧ w.cell? ⟨b, j, none⟩ = some (.int .i64 (wd : Int)) ∧ w.cell? ⟨b, j + 1, none⟩ = some (.slice (some ⟨g, 0, none⟩) n c) from ⟨pw_cell_below hw.b c0', pw_cell_below hw.b c1', pw_cell_below hw.b c2', pw_cell_below hw.b HW0.out.1, pw_cell_below hw.b HW0.out.2⟩)
   clear he hem hsl hel hseli c0' c1' c2' x0 x1 x2
   go_wp2_with fail
   go_loopg [9, 10] wd (fun gk v9 v10 wz => ∃ q : Nat, v10 = .int .i64 (q : Int) ∧ v9 = .bool (preB q cols t te) ∧ Aside0 (q + gk = wd) ∧ Aside0 (Since wr wz))
   case atStart => exact ⟨0, rfl, rfl, ⟨by omega⟩, ⟨Since.refl _⟩⟩
   case round =>
    obtain ⟨q, rfl, rfl, HQ, HZ⟩ := hrel
    obtain ⟨k0, k1, k2, k3, k4⟩ := HKP.out wr (HS.out.trans HZ.out)
    clear h0 h1
    by_cases hq : q < wd
    ·have hqi : (q : Int) < (wd : Int) := by omega
     have hqd : decide (q < wd) = true := decide_eq_true hq
     have hq0 : (0 : Int) ≤ (q : Int) ∧ (q : Int) < (wd : Int) := by omega
     obtain ⟨adx, rfl, cx⟩ := sl_at ((HS.out.trans HZ.out).sl HE.out.1) (q : Int) (by omega) (by have := HE.out.2; omega)
     obtain ⟨adt, rfl, cy⟩ := sl_at ((HS.out.trans HZ.out).sl HST.out) (q : Int) (by omega) (by have := HL.out; omega)
     rw [Int.toNat_natCast] at cx cy
     obtain ⟨a, ha⟩ : ∃ a, a = rd te (q : Int) := ⟨_, rfl⟩
     obtain ⟨a2, ha2⟩ : ∃ a, a = rd t (q : Int) := ⟨_, rfl⟩
     have hps := preB_succ q cols t te
     rw [← ha, ← ha2] at hps
     rw [← ha] at cx
     rw [← ha2] at cy
     have hs := shr_bit0 cols hc0 q
     obtain ⟨p, hp⟩ : ∃ p, p = preB q cols t te := ⟨_, rfl⟩
     rw [← hp] at hps ⊢
     have HPS := Aside0.mk hps
     clear ha ha2 hps hp
     cases p
     ·go_wp2_with fail
      go_region
      go_wp2_with fail
      obtain ⟨k2, hk2⟩ : ∃ k2, k2 = wd - q - 1 := ⟨_, rfl⟩
      go_roundg k2
      case measure => have := HQ.out; omega
      case rel => exact ⟨q + 1, by go_num, by rw [HPS.out]; rfl, ⟨by have := HQ.out; omega⟩, ⟨HZ.out.drew⟩⟩
     ·cases hbt : cols.toNat.testBit q
      ·rw [hbt] at hs HPS
       go_wp2_with fail
       go_region
       go_wp2_with fail
       obtain ⟨k2, hk2⟩ : ∃ k2, k2 = wd - q - 1 := ⟨_, rfl⟩
       go_roundg k2
       case measure => have := HQ.out; omega
       case rel => exact ⟨q + 1, by go_num, by rw [HPS.out]; rfl, ⟨by have := HQ.out; omega⟩, ⟨HZ.out.drew⟩⟩
      ·rw [hbt] at hs HPS
       by_cases hab : a = a2
       ·have hne : (a == a2) = true := by simp [hab]
        rw [decide_eq_true hab] at HPS
        clear hab
        go_wp2_with fail
        go_region
        go_wp2_with fail
        obtain ⟨k2, hk2⟩ : ∃ k2, k2 = wd - q - 1 := ⟨_, rfl⟩
        go_roundg k2
        case measure => have := HQ.out; omega
        case rel => exact ⟨q + 1, by go_num, by rw [HPS.out]; rfl, ⟨by have := HQ.out; omega⟩, ⟨HZ.out.drew⟩⟩
       ·have hne : (a == a2) = false := by simp [hab]
        rw [decide_eq_false hab] at HPS
        clear hab
        go_wp2_with fail
        go_region
        go_wp2_with fail
        obtain ⟨k2, hk2⟩ : ∃ k2, k2 = wd - q - 1 := ⟨_, rfl⟩
        go_roundg k2
        case measure => have := HQ.out; omega
        case rel => exact ⟨q + 1, by go_num, by rw [HPS.out]; rfl, ⟨by have := HQ.out; omega⟩, ⟨HZ.out.drew⟩⟩
    ·have hqi : ¬ (q : Int) < (wd : Int) := by omega
     have hqd : decide (q < wd) = false := decide_eq_false hq
     have hqw : q = wd := by have := HQ.out; omega
     have hag : preB q cols t te = agreeB wd cols t te := by rw [hqw]; rfl
     rw [hag]
     have HOZ := Aside0.mk (And.intro HO.out.1 (own_move (w1 := wr) HO.out.2 fun k hk => HZ.out.b.block k (Tup.own_lt HO.out.2 k hk.symm)))
     have hmb : m ≤ 1024 := by
      have hm1 : m = ((es.take i).filter fun e : Elt => agreeB wd cols t e.t).length := by rw [HO.out.1, HSE.out]
      have := List.length_filter_le (fun e : Elt => agreeB wd cols t e.t) (es.take i)
      rw [List.length_take] at this
      omega
     obtain ⟨p, hp⟩ : ∃ p, p = agreeB wd cols t te := ⟨_, rfl⟩
     rw [← hp] at HSI ⊢
     have HSZ := Aside0.mk (HS.out.trans HZ.out)
     clear hag hqw hp
     cases p
     ·go_wp2_with fail
      obtain ⟨k2, hk2⟩ : ∃ k2, k2 = n - i - 1 := ⟨_, rfl⟩
      go_roundg k2
      case measure => have := HI.out; omega
      case rel => exact ⟨i + 1, m, A7, c7, by go_num, rfl, ⟨by have := HI.out; omega⟩, ⟨by rw [HSI.out]; simp; exact HOZ.out.1, by rw [HSI.out]; simp; exact HOZ.out.2⟩, HSZ⟩
     ·go_wp2_with (first
       | ((with_reducible refine gate_builtin (b := .append) (xs := #[.tmp 75, .tmp 83]) rfl ?_); go_loud (refine wpList_append_any rfl _ _ 46 rfl W.heap.size 61 i0 (.agg #[.slice none 0 0, .int .i64 0, .int .i64 0]) 3 40 Tryz.underlying46 HI0.out.1 HI0.out.2.1 HI0.out.2.2.1 HI0.out.2.2.2 rfl (by decide) (.slice A7 m c7) m ((sel i).flatMap Elt.enc3) rfl (HOZ.out.2.alloc _) (some ⟨wr.heap.size, 0, none⟩) 1 1 [.slice Ae wd ce, .int .i64 n1, .int .i64 n2] rfl rfl (fun h => by cases h) (fun ad he k u hk => by cases he; rw [Addr.add_lit, Nat.zero_add, Tup.cell_of_heap (heap_alloc_new wr _)]; rw [← hk]; simp) (by simp [Value.oneCell']) (by unfold maxLen; omega) (by omega) (by have := HSZ.out.b.size; simp; omega) ?_; intro v4 wd4 hown4 hg4; have S4 := Aside0.mk (since_grown (HSZ.out.alloc (.cells #[.slice Ae wd ce, .int .i64 n1, .int .i64 n2] 61)) hg4 (fun k e => own_ge HOZ.out.2 k e.symm)); obtain ⟨A8, c8, hv4⟩ := own_slc hown4; subst hv4; have O4 := Aside0.mk hown4; clear hown4 hg4)))
      obtain ⟨k2, hk2⟩ : ∃ k2, k2 = n - i - 1 := ⟨_, rfl⟩
      go_roundg k2
      case measure => have := HI.out; omega
      case rel =>
       have HE5 := Aside0.mk (show (⟨Ae, ce, te, (n1, n2)⟩ : Elt).enc3 = [.slice Ae wd ce, .int .i64 n1, .int .i64 n2] from by
        simp only [Elt.enc3, Elt.v]
        rw [HE.out.2])
       exact ⟨i + 1, m + 1, A8, c8, by go_num, rfl, ⟨by have := HI.out; omega⟩, ⟨by rw [HSI.out]; simp; exact HOZ.out.1, by rw [HSI.out, List.flatMap_append]; simp only [if_true, List.flatMap_cons, List.flatMap_nil, List.append_nil]; rw [HE5.out]; exact O4.out⟩, S4⟩
  ·have hid : decide (i < n) = false := decide_eq_false hi
   have hii : ¬ (i : Int) < (n : Int) := by omega
   have hin : i = n := by have := HI.out; omega
   have hO := HO.out
   rw [hin] at hO
   have HO2 := Aside0.mk hO
   clear hin hO
   go_wp2_with fail
   go_ret
   have hml : m = (findL wd R cols t).length := by rw [← HFIN.out, List.length_map]; exact HO2.out.1
   have hsub : ∀ e ∈ sel n, e ∈ es := fun e he => by rw [HSE.out] at he; exact List.mem_of_mem_take (List.mem_filter.1 he).1
   obtain ⟨hle, hF⟩ := rows3 HO2.out.2 HO2.out.1.symm (fun e he => own_move (HH.out.el e (hsub e he)) fun k hk => HS.out.b.block k (Tup.own_lt (HH.out.el e (hsub e he)) k hk.symm))
   rw [HFIN.out] at hF
   exact ⟨A7, c7, by rw [← hml]; rfl, by rw [← hml]; exact hle, by rw [← hml]; exact Kd.F_now hF, HS.out⟩
theorem rrfind_calls {ok : Nat → Prop} (W : World) {base b j wd : Nat} {A : Option Addr} {c : Nat} {es : List Elt} {R : List Row} (h : Ref7 ok W base b j wd A c es R) (cols : Int) (At : Option Addr) (ct : Nat) (t : Tp) (st : Sl W At ct t) :
  Calls Tryz.prog 57 #[.pointer (some ⟨b, j, none⟩), .int .i64 cols, .slice At t.length ct] W (RowsC W (findL wd R cols t).length (findL wd R cols t)) := by
 by_cases hin : t.length = wd ∧ 0 ≤ cols ∧ cols < 2 ^ wd
 ·exact rrfind_main W h cols At ct t st hin.1 hin.2.1 hin.2.2
 ·have e : findL wd R cols t = [] := by unfold findL; rw [if_neg hin]
  rw [e]
  exact rrfind_early W h cols At ct t hin
def mergeR (wd : Nat) : List Row → Nat → List Row → Nat × Int × List Row
 | R, n, [] => (n, 0, R)
 | R, n, x :: M => if (putAns wd R x.1).2 ≠ 0 then (n, (putAns wd R x.1).2, R) else mergeR wd (putTo wd R x.1 x.2) (if (putAns wd R x.1).1 then n + 1 else n) M
theorem mergeR_stop {wd : Nat} {R : List Row} {n : Nat} {x : Row} {M : List Row} (h : (putAns wd R x.1).2 ≠ 0) : mergeR wd R n (x :: M) = (n, (putAns wd R x.1).2, R) := by
 simp only [mergeR]; rw [if_pos h]
theorem mergeR_go {wd : Nat} {R : List Row} {n : Nat} {x : Row} {M : List Row} (h : (putAns wd R x.1).2 = 0) : mergeR wd R n (x :: M) = mergeR wd (putTo wd R x.1 x.2) (if (putAns wd R x.1).1 then n + 1 else n) M := by
 simp only [mergeR]; rw [if_neg (by omega)]
theorem putTo_err {wd : Nat} {R : List Row} {t : Tp} {m : Int × Int} (h : (putAns wd R t).2 ≠ 0) : putTo wd R t m = R := by
 unfold putAns at h
 unfold putTo
 by_cases h1 : t.length ≠ wd
 ·rw [if_pos h1]
 ·rw [if_neg h1] at h ⊢
  by_cases h2 : t ∈ keys R
  ·rw [if_pos h2] at h; exact absurd rfl h
  ·rw [if_neg h2] at h
   rw [lookF_none.2 h2]
   by_cases h3 : 1024 ≤ R.length
   ·simp [h3]
   ·rw [if_neg h3] at h; exact absurd rfl h
theorem PAfter.mono {S S' : Nat → Prop} {b j : Nat} {W w : World} (h : PAfter S b j W w) (hs : ∀ k, S k → S' k) : PAfter S' b j W w := ⟨h.k.mono fun k hk => hk.imp id (hs k), h.c, h.f⟩
theorem PAfter.trans {S : Nat → Prop} {b j : Nat} {W w w' : World} (h : PAfter S b j W w) (g : PAfter S b j w w') : PAfter S b j W w' :=
 ⟨h.k.trans g.k, fun i hi v hv => g.c i hi v (h.c i hi v hv), fun i hb => (g.f i (Nat.lt_of_lt_of_le hb h.k.size)).trans (h.f i hb)⟩
theorem PAfter.refl (S : Nat → Prop) (b j : Nat) (W : World) : PAfter S b j W W := .since (Since.refl W)
set_option maxHeartbeats 2000000 in
set_option maxRecDepth 100000 in
theorem rmerge7_width {ok : Nat → Prop} (W : World) {base b j wd : Nat} {A : Option Addr} {c : Nat} {es : List Elt} {R : List Row} (h : Ref7 ok W base b j wd A c es R) (w2 : Nat) (A3 : Option Addr) (n3 c3 : Nat) (hw : wd ≠ w2) :
  Calls Tryz.prog 58 #[.pointer (some ⟨b, j, none⟩), .agg #[.int .i64 (w2 : Int), .slice A3 n3 c3]] W fun e w' => e = .returned (.tuple #[.int .i64 0, .int .i64 14]) ∧ Since W w' := by
 have hs := (Since.refl W).alloc (.cells #[.int .i64 (w2 : Int), .slice A3 n3 c3] 64)
 have h0 := (h.since hs).c0
 have hd : ((wd : Int) != (w2 : Int)) = true := bne_iff_ne.2 (by omega)
 have HS := Aside0.mk hs
 clear h hw hs
 go_enter Tryz.func58, Tryz.ntmps58
 go_wp2
 go_region
 all_goals go_wp2
 all_goals go_ret2
 exact ⟨rfl, HS.out.drew⟩
set_option maxHeartbeats 8000000 in
set_option maxRecDepth 100000 in
theorem rmerge7_main {ok : Nat → Prop} (W : World) {base b j wd : Nat} {A : Option Addr} {c : Nat} {es : List Elt} {R : List Row} (h : Ref7 ok W base b j wd A c es R) (hbb : ¬ ok b) (hba : base ≤ W.heap.size) (hok : ∀ k, W.heap.size ≤ k → ok k) (A3 : Option Addr) (c3 : Nat) (R2 : List Row) (hr2 : RowsOk wd R2) (base2 : Nat) (es2 : List Elt) (hrow2 : es2.map Elt.row = R2) (hC : ∀ w', PAfter ok b j W w' → w'.ownsRow base2 61 3 (.slice A3 R2.length c3) R2.length (es2.flatMap Elt.enc3) ∧ ∀ e ∈ es2, e.At w' base2) :
  Calls Tryz.prog 58 #[.pointer (some ⟨b, j, none⟩), .agg #[.int .i64 (wd : Int), .slice A3 R2.length c3]] W fun e w' => e = .returned (.tuple #[.int .i64 ((mergeR wd R 0 R2).1 : Int), .int .i64 (mergeR wd R 0 R2).2.1]) ∧ (∃ A' c' es', Ref7 ok w' base b j wd A' c' es' (mergeR wd R 0 R2).2.2) ∧ PAfter ok b j W w' := by
 obtain ⟨n, hnn⟩ : ∃ n, n = R2.length := ⟨_, rfl⟩
 rw [← hnn] at hC ⊢
 have hs := (Since.refl W).alloc (.cells #[.int .i64 (wd : Int), .slice A3 n c3] 64)
 have h0 := (h.since hs).c0
 have hd : ((wd : Int) != (wd : Int)) = false := by simp
 have hbx := heap_alloc_new W (.cells #[.int .i64 (wd : Int), .slice A3 n c3] 64)
 have hblt : b < W.heap.size := World.block_lt_of_cell? W _ h.c0
 have H := Aside0.mk h
 have HS := Aside0.mk hs
 have HBX := Aside0.mk hbx
 have HCC := Aside0.mk hC
 have HX := Aside0.mk (And.intro hbb (And.intro hok (And.intro hba hblt)))
 have HR2 := Aside0.mk hr2
 have HNN := Aside0.mk hnn
 have HRW := Aside0.mk hrow2
 have hl2 : es2.length = n := by rw [hnn, ← hrow2, List.length_map]
 have HL2 := Aside0.mk hl2
 have hn2 : n ≤ 1024 := by rw [hnn]; exact hr2.le
 clear h hbb hok hba hC hs hbx hblt hr2 hnn hrow2 hl2
 go_enter Tryz.func58, Tryz.ntmps58
 go_wp2
 go_region
 all_goals go_wp2_with fail
 obtain ⟨w0, hw0⟩ : ∃ w0, w0 = (W.alloc (.cells #[.int .i64 (wd : Int), .slice A3 n c3] 64)).drew := ⟨_, rfl⟩
 have S0 := Aside0.mk (show Since W w0 by rw [hw0]; exact HS.out.drew)
 have K0 : Aside0 (w0.heap[W.heap.size]? = some (.cells #[.int .i64 (wd : Int), .slice A3 n c3] 64 (0, 0)) ∧ W.heap.size < w0.heap.size) := ⟨by rw [hw0]; exact ⟨HBX.out, by simp⟩⟩
 obtain ⟨B, hB⟩ : ∃ B, B = W.heap.size := ⟨_, rfl⟩
 have HBB := Aside0.mk hB
 rw [← hw0]
 rw [← hB] at K0 ⊢
 clear hw0 hB
 go_loopg [6, 7] n (fun gk v6 v7 wr => ∃ (i m : Nat) (Ri : List Row) (Al : Option Addr) (cl : Nat) (el : List Elt), v6 = .int .i64 (m : Int) ∧ v7 = .int .i64 (i : Int) ∧ Aside0 (i + gk = n ∧ m ≤ i) ∧ Aside0 (Ref7 ok wr base b j wd Al cl el Ri) ∧ Aside0 (mergeR wd R 0 R2 = mergeR wd Ri m (R2.drop i)) ∧ Aside0 (PAfter ok b j W wr ∧ wr.heap[B]? = some (.cells #[.int .i64 (wd : Int), .slice A3 n c3] 64 (0, 0)) ∧ W.heap.size ≤ wr.heap.size))
 case atStart => exact ⟨0, 0, R, A, c, es, rfl, rfl, ⟨by omega, by omega⟩, ⟨H.out.since S0.out⟩, ⟨by simp⟩, ⟨.since S0.out, K0.out.1, S0.out.b.size⟩⟩
 case round =>
  obtain ⟨i, m, Ri, Al, cl, el, rfl, rfl, HI, HR, HM, HA⟩ := hrel
  have hi1 : i ≤ 1024 := by have := HI.out; omega
  have hm1 : m ≤ 1024 := by have := HI.out; omega
  have k1 : wr.cell? ⟨B, 1, none⟩ = some (.slice A3 n c3) := (Tup.cell_of_heap HA.out.2.1 1).trans rfl
  by_cases hi : i < n
  ·have hid : decide (i < n) = true := decide_eq_true hi
   have hii : (i : Int) < (n : Int) := by omega
   have hil : i < R2.length := by rw [← HNN.out]; exact hi
   have hie : i < es2.length := by rw [HL2.out]; exact hi
   obtain ⟨g3, rfl⟩ : ∃ g, A3 = some ⟨g, 0, none⟩ := by
    rcases (HCC.out wr HA.out.1).1.2 with ⟨_, hz⟩ | ⟨g, cap, cur, e, _⟩
    ·omega
    ·injection e with e _ _; exact ⟨g, e⟩
   obtain ⟨el2, hel2⟩ : ∃ e, e = es2[i] := ⟨_, rfl⟩
   have hem : el2 ∈ es2 := by rw [hel2]; exact List.getElem_mem _
   have hxr : el2.row = R2[i] := by rw [hel2]; simp only [← HRW.out, List.getElem_map]
   have HCL := Aside0.mk (fun (w' : World) (hP : PAfter ok b j W w') => show w'.cell? ⟨g3, i * 3, none⟩ = some el2.v ∧ w'.cell? ⟨g3, i * 3 + 1, none⟩ = some (.int .i64 el2.n.1) ∧ w'.cell? ⟨g3, i * 3 + 2, none⟩ = some (.int .i64 el2.n.2) from by
    obtain ⟨x0, x1, x2⟩ := flat3_cells hie
    rw [← hel2] at x0 x1 x2
    have hr := (own_reads (HCC.out w' hP).1).2 _ rfl
    have y0 := hr _ _ x0
    have y1 := hr _ _ x1
    have y2 := hr _ _ x2
    rw [Addr.add_lit, Nat.zero_add] at y0 y1 y2
    exact ⟨y0, y1, y2⟩)
   have sl : Sl wr el2.A el2.c el2.t := own_sl ((HCC.out wr HA.out.1).2 el2 hem)
   obtain ⟨x, hx⟩ : ∃ x, x = R2[i] := ⟨_, rfl⟩
   have hxm : x ∈ R2 := by rw [hx]; exact List.getElem_mem _
   rw [← hx] at hxr
   obtain ⟨Ai, ci, tx, m1, m2⟩ := el2
   subst hxr
   simp only [Elt.v] at HCL
   dsimp only at HCL sl
   clear hem hel2
   obtain ⟨x1, x2⟩ := HR2.out.nt _ hxm
   obtain ⟨qb, hqb⟩ : ∃ q, q = (putAns wd Ri tx).1 := ⟨_, rfl⟩
   obtain ⟨qe, hqe⟩ : ∃ q, q = (putAns wd Ri tx).2 := ⟨_, rfl⟩
   have HQ := Aside0.mk (And.intro hqb hqe)
   have hdr := Aside0.mk (show R2.drop i = (tx, (m1, m2)) :: R2.drop (i + 1) by rw [show (tx, (m1, m2)) = R2[i] from hx]; exact List.drop_eq_getElem_cons hil)
   have HInr := Aside0.mk (fun (w2 : World) (hs2 : Since wr w2) => show Calls Tryz.prog 27 #[.pointer (some ⟨b, j, none⟩), .int .i64 m1, .int .i64 m2, .slice Ai tx.length ci] w2 (fun e w' => e = .returned (.tuple #[.bool qb, .int .i64 qe]) ∧ PAfter ok b j wr w' ∧ w'.heap[B]? = wr.heap[B]? ∧ Aside0 (∃ Al' cl' el', Ref7 ok w' base b j wd Al' cl' el' (putTo wd Ri tx (m1, m2)))) from by
    have hA3 := HA.out.2.2
    have hz := hs2.b.size
    have hBlt : B < wr.heap.size := (Array.getElem?_eq_some_iff.1 HA.out.2.1).1
    refine (rput7_calls w2 (HR.out.since hs2) HX.out.1 (by have := HX.out.2.2.1; omega) Ai ci tx (hs2.sl sl) (m1, m2) x1 x2).mono ?_
    rintro e w' ⟨he, ⟨Al', cl', el', hR'⟩, hP⟩
    rw [← hqb, ← hqe] at he
    refine ⟨he, PAfter.trans (.since hs2) (hP.mono fun k hk => (HR.out.since hs2).ok0 k hk), ?_, ⟨Al', cl', el', hR'.mono fun k hk => hk.elim id fun hk => HX.out.2.1 k (by omega)⟩⟩
    refine (hP.k.same B (by omega) ?_).trans (hs2.b.block B hBlt)
    rintro (e1 | e1)
    ·have := HBB.out; have := HX.out.2.2.2; omega
    ·obtain ⟨c1, g1⟩ := own_typed (HR.out.since hs2).own B e1
     rw [hs2.b.block B hBlt, HA.out.2.1] at g1
     injection g1 with g1
     injection g1 with _ g3 _
     exact absurd g3 (by decide))
   have HSS := Aside0.mk (fun (w' : World) (hP : PAfter ok b j wr w') (hBk : w'.heap[B]? = wr.heap[B]?) => show (w'.cell? ⟨B, 1, none⟩ = some (.slice (some ⟨g3, 0, none⟩) n c3) ∧ w'.cell? ⟨g3, i * 3, none⟩ = some (.slice Ai tx.length ci) ∧ w'.cell? ⟨g3, i * 3 + 1, none⟩ = some (.int .i64 m1) ∧ w'.cell? ⟨g3, i * 3 + 2, none⟩ = some (.int .i64 m2)) ∧ PAfter ok b j wr w' ∧ w'.heap[B]? = wr.heap[B]? from
    ⟨⟨(Tup.cell_of_heap (hBk.trans HA.out.2.1) 1).trans rfl, HCL.out w' (HA.out.1.trans hP)⟩, hP, hBk⟩)
   have hs0 : PAfter ok b j wr wr := .refl _ _ _ _
   have hs1 : PAfter ok b j wr wr.drew := .since (Since.refl _).drew
   obtain ⟨⟨q0, q1, q2, q3⟩, _⟩ := HSS.out wr hs0 rfl
   clear hqb hqe hx sl hxm x1 x2
   by_cases he : qe = 0
   ·subst he
    have HE0 := Aside0.mk HQ.out.2
    cases qb with
    | true =>
     go_wp2_with fail
     go_region_held3 (fun w' => (w'.cell? ⟨B, 1, none⟩ = some (.slice (some ⟨g3, 0, none⟩) n c3) ∧ w'.cell? ⟨g3, i * 3, none⟩ = some (.slice Ai tx.length ci) ∧ w'.cell? ⟨g3, i * 3 + 1, none⟩ = some (.int .i64 m1) ∧ w'.cell? ⟨g3, i * 3 + 2, none⟩ = some (.int .i64 m2)) ∧ PAfter ok b j wr w' ∧ w'.heap[B]? = wr.heap[B]?)
      (first | exact HSS.out _ hs1 rfl | (go_split_ands; exact HSS.out _ (by assumption) (by assumption)))
      (first
      | (go_at_call 27; go_loud (((with_reducible refine (HInr.out _ (Since.refl _).drew).mono ?_)); rintro e wA ⟨rfl, hPA, hBA, HRA⟩)))
     obtain ⟨Al', cl', el', hR'⟩ := HRA.out
     have HP9 := Aside0.mk (And.intro hPA (And.intro hBA hR'))
     clear hPA hBA hR' HRA
     go_wp2_with fail
     obtain ⟨k2, hk2⟩ : ∃ k2, k2 = gk - 1 := ⟨_, rfl⟩
     go_roundg k2
     case measure => have := HI.out; omega
     case rel =>
      refine ⟨i + 1, m + 1, putTo wd Ri tx (m1, m2), Al', cl', el', by go_num, by go_num, ⟨by have := HI.out; omega, by have := HI.out; omega⟩, ⟨HP9.out.2.2⟩, ⟨?_⟩, ⟨HA.out.1.trans HP9.out.1, HP9.out.2.1.trans HA.out.2.1, Nat.le_trans HA.out.2.2 HP9.out.1.k.size⟩⟩
      rw [HM.out, hdr.out, mergeR_go (by exact HQ.out.2.symm), ← HQ.out.1]; rfl
    | false =>
     go_wp2_with fail
     go_region_held3 (fun w' => (w'.cell? ⟨B, 1, none⟩ = some (.slice (some ⟨g3, 0, none⟩) n c3) ∧ w'.cell? ⟨g3, i * 3, none⟩ = some (.slice Ai tx.length ci) ∧ w'.cell? ⟨g3, i * 3 + 1, none⟩ = some (.int .i64 m1) ∧ w'.cell? ⟨g3, i * 3 + 2, none⟩ = some (.int .i64 m2)) ∧ PAfter ok b j wr w' ∧ w'.heap[B]? = wr.heap[B]?)
      (first | exact HSS.out _ hs1 rfl | (go_split_ands; exact HSS.out _ (by assumption) (by assumption)))
      (first
      | (go_at_call 27; go_loud (((with_reducible refine (HInr.out _ (Since.refl _).drew).mono ?_)); rintro e wA ⟨rfl, hPA, hBA, HRA⟩)))
     obtain ⟨Al', cl', el', hR'⟩ := HRA.out
     have HP9 := Aside0.mk (And.intro hPA (And.intro hBA hR'))
     clear hPA hBA hR' HRA
     go_wp2_with fail
     obtain ⟨k2, hk2⟩ : ∃ k2, k2 = gk - 1 := ⟨_, rfl⟩
     go_roundg k2
     case measure => have := HI.out; omega
     case rel =>
      refine ⟨i + 1, m, putTo wd Ri tx (m1, m2), Al', cl', el', by go_num, by go_num, ⟨by have := HI.out; omega, by have := HI.out; omega⟩, ⟨HP9.out.2.2⟩, ⟨?_⟩, ⟨HA.out.1.trans HP9.out.1, HP9.out.2.1.trans HA.out.2.1, Nat.le_trans HA.out.2.2 HP9.out.1.k.size⟩⟩
      rw [HM.out, hdr.out, mergeR_go (by exact HQ.out.2.symm), ← HQ.out.1]; rfl
   ·have hed : (qe != 0) = true := by simpa using he
    have HE0 := Aside0.mk he
    clear he
    go_wp2_with fail
    go_region_held3 (fun w' => (w'.cell? ⟨B, 1, none⟩ = some (.slice (some ⟨g3, 0, none⟩) n c3) ∧ w'.cell? ⟨g3, i * 3, none⟩ = some (.slice Ai tx.length ci) ∧ w'.cell? ⟨g3, i * 3 + 1, none⟩ = some (.int .i64 m1) ∧ w'.cell? ⟨g3, i * 3 + 2, none⟩ = some (.int .i64 m2)) ∧ PAfter ok b j wr w' ∧ w'.heap[B]? = wr.heap[B]?)
     (first | exact HSS.out _ hs1 rfl | (go_split_ands; exact HSS.out _ (by assumption) (by assumption)))
     (first
     | (go_at_call 27; go_loud (((with_reducible refine (HInr.out _ (Since.refl _).drew).mono ?_)); rintro e wA ⟨rfl, hPA, hBA, HRA⟩)))
    obtain ⟨Al', cl', el', hR'⟩ := HRA.out
    have hst : (putAns wd Ri tx).2 ≠ 0 := by rw [← HQ.out.2]; exact HE0.out
    rw [putTo_err hst] at hR'
    have HP9 := Aside0.mk (And.intro hPA (And.intro hBA hR'))
    have HST := Aside0.mk hst
    clear hPA hBA hR' HRA hst
    go_wp2_with fail
    go_ret2
    have hfin : mergeR wd R 0 R2 = (m, qe, Ri) := by rw [HM.out, hdr.out, mergeR_stop HST.out, ← HQ.out.2]
    rw [hfin]
    exact ⟨rfl, ⟨Al', cl', el', HP9.out.2.2⟩, HA.out.1.trans HP9.out.1⟩
  ·have hid : decide (i < n) = false := decide_eq_false hi
   have hii : ¬ (i : Int) < (n : Int) := by omega
   go_wp2
   go_ret2
   have hd0 : R2.drop i = [] := List.drop_eq_nil_of_le (by rw [← HNN.out]; omega)
   have hfin : mergeR wd R 0 R2 = (m, 0, Ri) := by rw [HM.out, hd0]; rfl
   rw [hfin]
   exact ⟨rfl, ⟨Al, cl, el, HR.out⟩, HA.out.1⟩
end Go.Proofs.YtcmllllbmgcnlaaGreat.Rl
end
section
namespace Go.Proofs.YtcmllllbmgcnlaaGreat.Rl
open Go.RowKit Go.Lib Go.Shelf Go.Proofs.YtcmllllbmgcnlaaGreat.G Go.Proofs.YtcmllllbmgcnlaaGreat.Tup Go.Proofs.YtcmllllbmgcnlaaGreatW.PrintWords Go.Proofs.YtcmllllbmgcnlaaGreatW.PrintLast Go.Proofs.YtcmllllbmgcnlaaGreatW.PrintMore
open Go.Proofs.YtcmllllbmgcnlaaGreat.Ch (rwrongS pickS pickS_some)
set_option linter.unusedVariables false
set_option linter.unusedSimpArgs false
theorem region_plain {P : Program} {S : World → Prop} {ops : Array Oper} {id : Nat} {Q : Exit → Act → World → Prop} {a : Act} {w : World} (hm : P.follows .mixedOrders = true) (hS : S w.drew) (h : S w.drew → wpAnyH P .any ops Q S ops.size (Array.replicate ops.size false) a w.drew) : (Code.region id ops true).wp P Q a w :=
 wp_region_any hm (wpAny_of_held _ _ _ _ (h hS))
end Go.Proofs.YtcmllllbmgcnlaaGreat.Rl
end
section
namespace Go.Proofs.YtcmllllbmgcnlaaGreat.Rl
open Go.RowKit Go.Lib Go.Shelf Go.Proofs.YtcmllllbmgcnlaaGreat.G Go.Proofs.YtcmllllbmgcnlaaGreat.Tup Go.Proofs.YtcmllllbmgcnlaaGreatW.PrintWords Go.Proofs.YtcmllllbmgcnlaaGreatW.PrintLast Go.Proofs.YtcmllllbmgcnlaaGreatW.PrintMore
open Go.Proofs.YtcmllllbmgcnlaaGreat.Ch (rwrongS)
set_option linter.unusedVariables false
set_option linter.unusedSimpArgs false
attribute [local go_sem] Oper.semAt_some
theorem noteF_right {h k : Int} (h1 : rightB h = true) (h2 : rightB k = true) : (noteF h k).1 = (nf h, nf k) := by
 unfold noteF
 rw [h1, h2]
 rfl
theorem range2_outer1 {F : Fence} {n : Nat} {P : Program} {g : Operand} {ps : Array Tmp} {assign body : Code} {Q : Exit → Act → World → Prop} {a : Act} {w : World} (hd : F.depth = none) (hro : F.round = none)
  {gf : Nat} {lb : Array Value} (hg : a.eval g = .func (.func gf) #[] lb) (hFg : F.fn gf) (eg : ∀ args w, (callFunc gf args).run P w = .ok (.enter gf args) w)
  {xs : List Row} (hseq : Seq2R F P gf lb xs w) (hps : ps.size = 2) (asg : Array Value → Value → Value → Array Value)
  (I : Nat → List Row → World → Prop) (Ix : Nat → Code → List Row → World → Prop) (hI : ∀ N, w.heap.size + 2 ≤ N → OwnFrom w.heap.size (I N)) (hIx : ∀ N c, w.heap.size + 2 ≤ N → OwnFrom w.heap.size (Ix N c)) (h0 : ∀ W', Below w.heap.size w W' → w.heap.size + 2 ≤ W'.heap.size → I W'.heap.size [] W')
  (hassign : ∀ l u v W (K : Act → World → Prop), K { tmps := asg a.tmps u v, defers := [] } W → assign.wpIn (F.inRound l) n P (Exit.then K (fun _ _ _ => False)) { tmps := (ps.zip #[u, v]).foldl (fun t (p, v) => t.setIfInBounds p v) a.tmps, defers := [] } W)
  (hbody : ∀ N l pre x A c W1, w.heap.size + 2 ≤ N → w.heap.size ≤ l → (∃ r, W1.heap[l]? = some (.loop r)) → pre ++ [x] <+: xs → Given (w.heap.size + 2) N W1 A c x.1 → I N pre W1 → body.wpIn (F.inRound l) n P (ownPostG w.heap.size (KpF (PrivX (w.heap.size + 2) N A)) (I N) (Ix N) (pre ++ [x]) W1) { tmps := asg a.tmps (.slice A x.1.length c) (noteV x.2), defers := [] } W1)
  (hdone : ∀ (N D : Nat) (W : World), w.heap.size + 2 ≤ N → w.heap.size ≤ D → I N xs W → W.heap[D]? = some (.deferred (some [])) → Q .normal { a with defers := { target := .collected D, args := #[] } :: a.defers } W)
  (hstop : ∀ (N D : Nat) (c : Code) (pre : List Row) (W : World), w.heap.size + 2 ≤ N → w.heap.size ≤ D → pre <+: xs → Ix N c pre W → W.heap[D]? = some (.deferred (some [])) → c.wpIn F n P Q { a with defers := { target := .collected D, args := #[] } :: a.defers } W) :
  (Code.rangeFunc g ps assign body).wpIn F n P Q a w :=
 range2_outer hd hro hg hFg eg hseq hps I Ix hI hIx h0 (fun x A c => { tmps := asg a.tmps (.slice A x.1.length c) (noteV x.2), defers := [] }) (fun l x A c W K hK => hassign l _ _ W K hK) hbody hdone hstop
end Go.Proofs.YtcmllllbmgcnlaaGreat.Rl
end
