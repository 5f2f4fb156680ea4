/- Own texts, joined and cut to what the claim stands on: BtWalkR, BtLoop, BtList, BtRange, BtIter, BtNew. -/
import Derived.Maps.AppendAt
import Derived.Test.YtcmllllbmgcnlaaGreatU16
section
namespace Go.Proofs.YtcmllllbmgcnlaaGreat.Tup
open Go.RowKit Go.Lib Go.Shelf Go.Proofs.YtcmllllbmgcnlaaGreat.G Go.Proofs.YtcmllllbmgcnlaaGreatW.PrintWords Go.Proofs.YtcmllllbmgcnlaaGreatW.PrintLast Go.Proofs.YtcmllllbmgcnlaaGreatW.PrintMore
set_option linter.unusedVariables false
set_option linter.unusedSimpArgs false
attribute [local go_sem] Oper.semAt_some
set_option maxRecDepth 100000 in
set_option maxHeartbeats 4000000 in
theorem walkR_in (B5 B3 B2 B4 : Nat) (F : Fence) (hd : F.depth = none) (hF : ∀ f, F.fn f) (hro : F.round = none) (l : Nat) (fp : Nat → Prop) (J Jx : List Tp → World → Prop) (xs : List Tp) (o : Tp) (p : Tp → Bool) (Ws : World) (Q : Tp → Prop) (hQ : ∀ a, Q a → a.length ≤ 1000)
  (hcl : ∀ n W A c t, Sl W A c t → t.length ≤ 1000000 → CallsIn F n Tryz.prog 44 #[.slice A t.length c] W fun e w' => ∃ A' c', e = .returned (.slice A' t.length c') ∧ Handed1 W w' A' c' t)
  (hbl : ∀ n W A c t, KpF fp Ws W → Q t → Sl W A c t → CallsIn F n Tryz.prog 75 #[.slice A t.length c, .pointer (some ⟨B5, 0, none⟩), .pointer (some ⟨B3, 0, none⟩), .pointer (some ⟨B2, 0, none⟩)] W fun e w' => e = .returned (.bool (p t)) ∧ Below W.heap.size W w')
  (hJ : ∀ s W W', J s W → Below W.heap.size W W' → J s W') (hR : ∀ m pre x A c W0 W1, KpF fp Ws W1 → J pre W0 → pre ++ [x] <+: xs → Handed1 W0 W1 A c x → CallsIn F m Tryz.prog 77 #[.slice A x.length c, .pointer (some ⟨B5, 0, none⟩), .pointer (some ⟨B3, 0, none⟩), .pointer (some ⟨B2, 0, none⟩), .pointer (some ⟨B4, 0, none⟩)] W1 fun e W' => (e = .returned (.bool true) ∧ J (pre ++ [x]) W' ∧ KpF fp W1 W') ∨ (e = .returned (.bool false) ∧ Jx (pre ++ [x]) W')) (k : Nat) :
  ∀ (T : BT) (hsz : SizeOf.sizeOf T < k) (n : Nat) (b : Nat) (pre : List Tp) (W : World), NodeF fp W b T → T.Ok → Up o T.io → (∀ x y, x ∈ T.io → y ∈ T.io → Lt o x y → p y = true → p x = true) → (∀ a ∈ T.io, Q a) → T.io.length ≤ 1024 → KpF fp Ws W → J pre W → pre ++ sel p T.io <+: xs →
   CallsIn F n Tryz.prog 76 #[.pointer (some ⟨b, 0, none⟩), .func (.func 75) #[] #[.pointer (some ⟨B5, 0, none⟩), .pointer (some ⟨B3, 0, none⟩), .pointer (some ⟨B2, 0, none⟩)], .func (.func 77) #[] #[.pointer (some ⟨B5, 0, none⟩), .pointer (some ⟨B3, 0, none⟩), .pointer (some ⟨B2, 0, none⟩), .pointer (some ⟨B4, 0, none⟩)]] W (WalkR fp J Jx W pre (sel p T.io)) := by
 induction k with
 | zero => intro T hsz; omega
 | succ k ih =>
  intro T hsz n b pre W hNd hOk hUp hp hlen hle hKs hJ0 hpre
  have hdd : ∀ k : Nat, (F.depth.isSome = true → 1 ≤ k) := fun k h => by rw [hd] at h; cases h
  cases hNd with
  | mk b A0 c0 A1 c1 ts kids ps hokb h0 h1 hc0 hc1 hl hT hN hk =>
   obtain ⟨m, hmm⟩ : ∃ m, m = ts.length := ⟨_, rfl⟩
   obtain ⟨q, hqq⟩ : ∃ q, q = ps.length := ⟨_, rfl⟩
   have hm : m ≤ 1024 := by
    have := weave_len (kids.map BT.io) ts (io_ts hOk)
    rw [← BT.io_mk] at this
    omega
   rw [← hmm] at h0 hc0
   rw [← hqq] at h1 hc1
   have hw1 : IntKind.i64.wrap ((m : Int) + 1) = (m : Int) + 1 := by rw [IntKind.wrap_i64]; omega
   have HKL := Aside0.mk (kidl_len hOk)
   have HKS := Aside0.mk hKs
   clear hKs
   have HT := Aside0.mk hT
   have HN := Aside0.mk hN
   have HK := Aside0.mk hk
   have H0 := Aside0.mk h0
   have H1 := Aside0.mk h1
   have HP := Aside0.mk hp
   have HUP := Aside0.mk hUp
   have HOK := Aside0.mk hOk
   have HLE := Aside0.mk hlen
   have HPRE := Aside0.mk hpre
   have HMM := Aside0.mk hmm
   have HQQ := Aside0.mk hqq
   have HLL := Aside0.mk hl
   have HSZ := Aside0.mk hsz
   have HLN := Aside0.mk hle
   have HOKB := Aside0.mk hokb
   have HB := Aside0.mk (fun x y h a b => hJ x y h a b)
   clear hT hN hk hp hUp hlen hpre hmm hqq hl hsz hle hOk hokb
   refine callsIn_of_wp Tryz.func76 rfl (hF _) ?_ hro
   simp only [Tryz.ntmps76, List.size_toArray, List.length_cons, List.length_nil, Nat.reduceAdd, Nat.reduceSub, Array.replicate_succ, Array.replicate_zero, List.push_toArray, List.append_toArray, List.nil_append, List.cons_append]
   gi_wp2
   gi_loopw [14] (fun v14 wr => ∃ i : Nat, i ≤ m + 1 ∧ v14 = .int .i64 i ∧ Aside0 (J (pre ++ sel p (front (kidl ts kids) ts i)) wr) ∧ Aside0 (KpF fp W wr))
    (fun v14 _ => m + 1 - (intOf v14).toNat)
   case atStart => exact ⟨0, Nat.zero_le _, rfl, ⟨by rw [front_zero]; simpa [sel] using hJ0⟩, ⟨KpF.refl _ _⟩⟩
   case round =>
    obtain ⟨i, hi, rfl, HJ, HKP⟩ := hrel
    by_cases hE : i = m + 1
    ·subst hE
     have HF := Aside0.mk (show sel p (front (kidl ts kids) ts (m + 1)) = sel p (BT.mk ts kids).io by rw [HMM.out, front_all _ _ HKL.out, kidl_io])
     gi_wp2
     go_ret
     exact .inl ⟨rfl, by rw [← HF.out]; exact HJ.out, HKP.out⟩
    ·have hi2 : i ≤ m := by omega
     have hi3 : (i : Int) < (m : Int) + 1 := by omega
     have hi4 : (0 : Int) ≤ (i : Int) := by omega
     have hwi : IntKind.i64.wrap ((i : Int) + 1) = (i : Int) + 1 := by rw [IntKind.wrap_i64]; omega
     have h0r : wr.cell? ⟨b, 0, none⟩ = some (.slice A0 m c0) := HKP.out.cell HOKB.out H0.out
     have h1r : wr.cell? ⟨b, 1, none⟩ = some (.slice A1 q c1) := HKP.out.cell HOKB.out H1.out
     clear h0 h1 hi hE
     by_cases hin : i < m
     ·have hin2 : (i : Int) < (m : Int) := by omega
      have hsi : i < ts.length := by have := HMM.out; omega
      obtain ⟨ad, Ai, ci, rfl, hcell, sl⟩ := tup_at (Kd.F_now (Kd.F_step HT.out HKP.out.same)) i hsi
      obtain ⟨x, hx⟩ : ∃ x, x = ts[i] := ⟨_, rfl⟩
      rw [← hx] at hcell sl
      have HX := Aside0.mk (show ts[i]?.getD [] = x by rw [hx]; simp [hsi])
      have HFS := Aside0.mk (front_succ (kidl ts kids) ts i HKL.out hsi)
      have HXM := Aside0.mk (show x ∈ (BT.mk ts kids).io from by rw [hx, BT.io_mk]; exact weave_mem_ts _ _ (io_ts HOK.out) _ (List.getElem_mem _))
      clear hx
      by_cases hpx : p x = true
      ·have hblx := hbl (n - 1) wr Ai ci x (HKS.out.trans HKP.out) (HLE.out x HXM.out) sl
       rw [hpx] at hblx
       have HN1 := Aside0.mk (below_all HOK.out HUP.out HP.out i hsi (by rw [HX.out]; exact hpx))
       have HN0 := Aside0.mk (show sel p (front (kidl ts kids) ts i) = [] from by
        have h := HN1.out
        rw [HFS.out, sel_append] at h
        exact (List.append_eq_nil_iff.1 h).1)
       gi_wp2_with (first
        | ((try refine ⟨hdd _, ?_⟩); gi_at_call 75; refine hblx.mono ?_; clear hblx; rintro e w1 ⟨rfl, hb1⟩))
       go_roundw
       case rel => exact ⟨i + 1, by omega, by simp, ⟨by rw [HN1.out, ← HN0.out]; exact HB.out _ _ _ HJ.out hb1⟩, ⟨HKP.out.trans (KpF.below hb1)⟩⟩
       case measure => simp [intOf]; omega
      ·have hpx2 : p x = false := by simpa using hpx
       have hblx := hbl (n - 1) wr Ai ci x (HKS.out.trans HKP.out) (HLE.out x HXM.out) sl
       rw [hpx2] at hblx
       have hxl : x.length ≤ 1000000 := by have := hQ x (HLE.out x HXM.out); omega
       have HXL := Aside0.mk hxl
       clear hxl
       have HNX := Aside0.mk (show pre ++ sel p (front (kidl ts kids) ts (i + 1)) <+: xs from
        (List.prefix_append_right_inj pre |>.2 (sel_prefix p (by rw [← kidl_io]; exact front_pre _ _ _ HKL.out (by omega)))).trans HPRE.out)
       have HSX := Aside0.mk (sel_yes p x hpx2)
       rcases Nat.eq_zero_or_pos q with hq | hq
       ·subst hq
        have hkd : kids = [] := List.length_eq_zero_iff.1 (by have := HLL.out; have := HQQ.out; omega)
        have HFF := Aside0.mk (show sel p (front (kidl ts kids) ts (i + 1)) = sel p (front (kidl ts kids) ts i) ++ [x] from by
         rw [HFS.out, HX.out, sel_append, hkd, kidl_leaf, List.nil_append, HSX.out])
        clear hkd
        gi_wp2_with (first
         | ((try refine ⟨hdd _, ?_⟩); gi_at_call 75; refine hblx.mono ?_; clear hblx; rintro e w1 ⟨rfl, hb1⟩; have h0a := pw_cell_below hb1 h0r; have h1a := pw_cell_below hb1 h1r; have hca := pw_cell_below hb1 hcell; have hsl1 := sl.below hb1; have hJ1 := HB.out _ _ _ HJ.out hb1; have HB1 := Aside0.mk hb1; clear hb1)
         | ((try refine ⟨hdd _, ?_⟩); gi_at_call 44; refine (hcl _ w1 Ai ci x hsl1 HXL.out).mono ?_; rintro e w2 ⟨A2, c2, rfl, hh⟩; have hRo := hR (n - 1) _ x A2 c2 w1 w2 (((HKS.out.trans HKP.out).trans (KpF.below HB1.out)).trans (KpF.below hh.1)) hJ1 (by rw [List.append_assoc, ← HFF.out]; exact HNX.out) hh; have HH := Aside0.mk hh; clear hh)
         | ((try refine ⟨hdd _, ?_⟩); gi_at_call 77; refine hRo.mono ?_; clear hRo; rintro e w3 (⟨rfl, hJ3, hk3⟩ | ⟨rfl, hx3⟩)))
        ·refine ⟨⟨i + 1, by omega, by simp, ⟨by rw [HFF.out, ← List.append_assoc]; exact hJ3⟩, ⟨((HKP.out.trans (KpF.below HB1.out)).trans (KpF.below HH.out.1)).trans hk3⟩⟩, by simp [intOf]; omega⟩
        ·go_ret
         exact .inr ⟨rfl, sel p (front (kidl ts kids) ts (i + 1)), sel_prefix p (by rw [← kidl_io]; exact front_pre _ _ _ HKL.out (by omega)), by rw [HFF.out, ← List.append_assoc]; exact hx3⟩
       ·have hip : i < ps.length := by
         have h1 := HLL.out
         have h2 := HQQ.out
         have h3 := HMM.out
         rcases ((BT.ok_mk ts kids).1 HOK.out).1 with e | e
         ·rw [e] at h1; simp only [List.length_nil] at h1; omega
         ·omega
        have hik : i < kids.length := by have := HLL.out; omega
        have hiq : (i : Int) < (q : Int) := by have := HQQ.out; omega
        have hqp : (q : Int) > 0 := by omega
        obtain ⟨ad1, rfl, hcel1⟩ := nod_at (Kd.F_now (Kd.F_step HN.out HKP.out.same)) i hip
        have HCH := Aside0.mk (walk_child hik hip HOK.out HUP.out HP.out HLE.out HLN.out HSZ.out HK.out HKS.out ih)
        obtain ⟨pb, hpb⟩ : ∃ pb, pb = ps[i] := ⟨_, rfl⟩
        obtain ⟨K0, hK0⟩ : ∃ K0, K0 = kids[i] := ⟨_, rfl⟩
        rw [← hpb] at hcel1 HCH
        rw [← hK0] at HCH
        have HFF := Aside0.mk (show sel p (front (kidl ts kids) ts (i + 1)) = sel p (front (kidl ts kids) ts i) ++ (sel p K0.io ++ [x]) from by
         rw [HFS.out, HX.out, sel_append, kidl_kid i hik, ← hK0, sel_append, HSX.out])
        have HTX := Aside0.mk (show ∀ w', KpF fp W w' → ∃ Ai ci, w'.cell? (ad.add i) = some (.slice Ai x.length ci) ∧ Sl w' Ai ci x from fun w' hk => by
         obtain ⟨ad', Ai', ci', e, hc', sl'⟩ := tup_at (Kd.F_now (Kd.F_step HT.out hk.same)) i hsi
         have e' := Option.some.inj e
         subst e'
         have hxe : ts[i] = x := by have := HX.out; simpa [hsi] using this
         rw [hxe] at hc' sl'
         exact ⟨Ai', ci', hc', sl'⟩)
        clear hpb hK0 hip hik
        gi_wp2_with (first
         | ((try refine ⟨hdd _, ?_⟩); gi_at_call 75; refine hblx.mono ?_; clear hblx; rintro e w1 ⟨rfl, hb1⟩; have h0a := pw_cell_below hb1 h0r; have h1a := pw_cell_below hb1 h1r; have hce1 := pw_cell_below hb1 hcel1; have hJ1 := HB.out _ _ _ HJ.out hb1; have HK1 := Aside0.mk (HKP.out.trans (KpF.below hb1)); clear hb1; have hch := walk_beside HCH.out HK1.out hJ1 (by rw [List.append_assoc]; exact (List.prefix_append_right_inj pre |>.2 (by rw [HFF.out, ← List.append_assoc]; exact List.prefix_append _ _)).trans HNX.out) HOKB.out H0.out HTX.out (n - 1))
         | ((try refine ⟨hdd _, ?_⟩); gi_at_call 76; refine hch.mono ?_; clear hch; rintro e w2 (⟨rfl, hJ2, hk2, h0b, Ai2, ci2, hca2, hsl2⟩ | ⟨rfl, q', hq', hx2⟩))
         | ((try refine ⟨hdd _, ?_⟩); gi_at_call 44; refine (hcl _ w2 Ai2 ci2 x hsl2 HXL.out).mono ?_; rintro e w4 ⟨A4, c4, rfl, hh⟩; have hRo := hR (n - 1) _ x A4 c4 w2 w4 ((HKS.out.trans hk2).trans (KpF.below hh.1)) hJ2 (by have h := HNX.out; rw [HFF.out] at h; simpa [List.append_assoc] using h) hh; have HH := Aside0.mk hh; clear hh)
         | ((try refine ⟨hdd _, ?_⟩); gi_at_call 77; refine hRo.mono ?_; clear hRo; rintro e w3 (⟨rfl, hJ3, hk3⟩ | ⟨rfl, hx3⟩)))
        ·refine ⟨⟨i + 1, by omega, by simp, ⟨by have h := hJ3; rw [HFF.out]; simpa [List.append_assoc] using h⟩, ⟨(hk2.trans (KpF.below HH.out.1)).trans hk3⟩⟩, by simp [intOf]; omega⟩
        ·go_ret
         exact .inr ⟨rfl, sel p (front (kidl ts kids) ts (i + 1)), sel_prefix p (by rw [← kidl_io]; exact front_pre _ _ _ HKL.out (by omega)), by have h := hx3; rw [HFF.out]; simpa [List.append_assoc] using h⟩
        ·go_ret
         refine .inr ⟨rfl, sel p (front (kidl ts kids) ts i) ++ q', ?_, by rw [← List.append_assoc]; exact hx2⟩
         refine List.IsPrefix.trans ?_ (sel_prefix p (show front (kidl ts kids) ts (i + 1) <+: (BT.mk ts kids).io by rw [← kidl_io]; exact front_pre _ _ _ HKL.out (by omega)))
         rw [HFF.out]
         exact List.prefix_append_right_inj _ |>.2 (hq'.trans (List.prefix_append _ _))
     ·obtain rfl : i = m := by omega
      have HFL := Aside0.mk (show front (kidl ts kids) ts (i + 1) = front (kidl ts kids) ts i ++ ((kidl ts kids)[i]?.getD []) by have := front_last (kidl ts kids) ts HKL.out; rw [← HMM.out] at this; exact this)
      have HFA := Aside0.mk (show sel p (front (kidl ts kids) ts (i + 1)) = sel p (BT.mk ts kids).io by rw [HMM.out, front_all _ _ HKL.out, kidl_io])
      rcases Nat.eq_zero_or_pos q with hq | hq
      ·subst hq
       have hkd : kids = [] := List.length_eq_zero_iff.1 (by have := HLL.out; have := HQQ.out; omega)
       have HFF := Aside0.mk (show sel p (front (kidl ts kids) ts (i + 1)) = sel p (front (kidl ts kids) ts i) from by
        rw [HFL.out, hkd, kidl_leaf, List.append_nil])
       clear hkd
       gi_wp2
       refine ⟨⟨i + 1, by omega, by simp, ⟨by rw [HFF.out]; exact HJ.out⟩, HKP⟩, by simp [intOf]⟩
      ·have hip : i < ps.length := by
        have h1 := HLL.out
        have h2 := HQQ.out
        have h3 := HMM.out
        rcases ((BT.ok_mk ts kids).1 HOK.out).1 with e | e
        ·rw [e] at h1; simp only [List.length_nil] at h1; omega
        ·omega
       have hik : i < kids.length := by have := HLL.out; omega
       have hiq : (i : Int) < (q : Int) := by have := HQQ.out; omega
       have hqp : (q : Int) > 0 := by omega
       obtain ⟨ad1, rfl, hcel1⟩ := nod_at (Kd.F_now (Kd.F_step HN.out HKP.out.same)) i hip
       have HCH := Aside0.mk (walk_child hik hip HOK.out HUP.out HP.out HLE.out HLN.out HSZ.out HK.out HKS.out ih)
       obtain ⟨pb, hpb⟩ : ∃ pb, pb = ps[i] := ⟨_, rfl⟩
       obtain ⟨K0, hK0⟩ : ∃ K0, K0 = kids[i] := ⟨_, rfl⟩
       rw [← hpb] at hcel1 HCH
       rw [← hK0] at HCH
       have HFF := Aside0.mk (show sel p (front (kidl ts kids) ts (i + 1)) = sel p (front (kidl ts kids) ts i) ++ sel p K0.io from by
        rw [HFL.out, sel_append, kidl_kid i hik, ← hK0])
       have hch := walk_beside0 HCH.out HKP.out HJ.out (by have h := HPRE.out; rw [← HFA.out, HFF.out] at h; simpa [List.append_assoc] using h) HOKB.out H0.out (n - 1)
       clear hpb hK0 hip hik
       gi_wp2_with (first
        | ((try refine ⟨hdd _, ?_⟩); gi_at_call 76; refine hch.mono ?_; clear hch; rintro e w2 (⟨rfl, hJ2, hk2, h0b⟩ | ⟨rfl, q', hq', hx2⟩)))
       ·refine ⟨⟨i + 1, by omega, by simp, ⟨by rw [HFF.out, ← List.append_assoc]; exact hJ2⟩, ⟨hk2⟩⟩, by simp [intOf]⟩
       ·go_ret
        refine .inr ⟨rfl, sel p (front (kidl ts kids) ts i) ++ q', ?_, by rw [← List.append_assoc]; exact hx2⟩
        rw [← HFA.out, HFF.out]
        exact List.prefix_append_right_inj _ |>.2 hq'
end Go.Proofs.YtcmllllbmgcnlaaGreat.Tup
end
section
namespace Go.Proofs.YtcmllllbmgcnlaaGreat.Tup
open Go.RowKit Go.Lib Go.Shelf Go.Proofs.YtcmllllbmgcnlaaGreat.G Go.Proofs.YtcmllllbmgcnlaaGreatW.PrintWords Go.Proofs.YtcmllllbmgcnlaaGreatW.PrintLast Go.Proofs.YtcmllllbmgcnlaaGreatW.PrintMore
set_option linter.unusedVariables false
set_option linter.unusedSimpArgs false
def recOf (fn : FuncId) (tm : Array Value) (ps : Array Tmp) (assign body : Code) (d : Nat) (st : LoopState) (pe : Option Code) : Loop := { state := st, pending := pe, fn, tmps := tm, params := ps, assign, body, defers := d }
def Marks (Dl : List Nat) (W : World) : Prop := ∀ D ∈ Dl, W.heap[D]? = some (.deferred (some []))
theorem rounds_of {F : Fence} {n : Nat} (hd : F.depth = none) {P : Program} {B l : Nat} (hBl : B ≤ l) {fn : FuncId} {tm : Array Value} {ps : Array Tmp} {assign body : Code} {d : Nat} (hfn : F.fn fn) {fp : Nat → Prop} {xs : List Tp} (hps : ps.size = 1) (I : List Tp → World → Prop) (Ix : Code → List Tp → World → Prop) (hI : OwnFrom B I) (hIx : ∀ c, OwnFrom B (Ix c)) (Dl : List Nat) (hD : ∀ D ∈ Dl, B ≤ D ∧ D ≠ l) (hfp : ∀ k, fp k → k ≠ l) (a₁ : Tp → Option Addr → Nat → Act)
  (hassign : ∀ x A c W (K : Act → World → Prop), K (a₁ x A c) W → assign.wpIn (F.inRound l) n P (Exit.then K (fun _ _ _ => False)) { tmps := (ps.zip #[Value.slice A x.length c]).foldl (fun t (p, v) => t.setIfInBounds p v) tm, defers := [] } W)
  (hbody : ∀ pre x A c W0 W1, (∃ r, W1.heap[l]? = some (.loop r)) → I pre W0 → pre ++ [x] <+: xs → Handed1 W0 W1 A c x → I pre W1 → body.wpIn (F.inRound l) n P (ownPostG B (KpF fp) I Ix (pre ++ [x]) W1) (a₁ x A c) W1) :
  Rounds F P l (fun pre W => I pre W ∧ W.heap[l]? = some (.loop (recOf fn tm ps assign body d .ready none)) ∧ Marks Dl W) (fun pre W => ∃ c, Ix c pre W ∧ W.heap[l]? = some (.loop (recOf fn tm ps assign body d .done (some c))) ∧ Marks Dl W) fp xs := by
 rintro m pre x A c W0 W1 ⟨hi, hl, hk⟩ hpre ⟨hb, ho⟩
 have hlt0 := (Array.getElem?_eq_some_iff.1 hl).1
 have hl1 : W1.heap[l]? = some (.loop (recOf fn tm ps assign body d .ready none)) := (hb.block l hlt0).trans hl
 have hlt1 := (Array.getElem?_eq_some_iff.1 hl1).1
 have hk1 : Marks Dl W1 := fun D hD' => (hb.block D (Array.getElem?_eq_some_iff.1 (hk D hD')).1).trans (hk D hD')
 have hi1 : I pre W1 := hI pre W0 W1 none hi ⟨hb.os, hb.tape, hb.output, hb.size, fun k hk _ => hb.block k hk⟩ (fun r e => by cases e)
 refine yieldAny hd m ⟨fn, _, assign, body, run_yield hl1 (by simp [recOf, hps]), roundIn_of_wpIn hfn (hassign x A c W1 _ ⟨_, run_beginRound hl1 rfl, ?_⟩)⟩
 obtain ⟨ob, hob⟩ : ∃ ob, ob = Obj.loop { recOf fn tm ps assign body d .ready none with state := .busy } := ⟨_, rfl⟩
 rw [← hob]
 have hbb : Below (W0.putObj l ob).heap.size (W0.putObj l ob) (W1.putObj l ob) := ⟨hb.os, hb.tape, hb.output, by simpa using hb.size, fun k hk => by
  by_cases e : k = l
  ·subst e; rw [World.putObj_heap_same hlt1, World.putObj_heap_same hlt0]
  ·rw [World.putObj_heap_other e, World.putObj_heap_other e]; exact hb.block k (by simpa using hk)⟩
 have hoo : (W1.putObj l ob).ownsRow (W0.putObj l ob).heap.size 3 1 (.slice A x.length c) x.length (x.map (Value.int .i64)) := by
  have := own_move ho (w1 := W1.putObj l ob) (fun k hk => World.putObj_heap_other (fun e => by have := own_ge ho k hk.symm; omega))
  simpa using this
 have hl2 : (W1.putObj l ob).heap[l]? = some ob := World.putObj_heap_same hlt1
 have hk2 : Marks Dl (W1.putObj l ob) := fun D hD' => (World.putObj_heap_other (hD D hD').2).trans (hk1 D hD')
 refine wpIn_mono (hbody pre x A c (W0.putObj l ob) (W1.putObj l ob) ⟨_, hl2.trans (by rw [hob])⟩ (hI.putObj _ hi hBl hl rfl) hpre ⟨hbb, hoo⟩ (hI.putObj _ hi1 hBl hl1 rfl)) ?_
 have hnl := hfp
 have fin : ∀ (jump : Option Code) (W3 : World), KeepsFrom B (W1.putObj l ob) W3 → ∃ v W4, (Instr.endRound l jump).run P W3 = .ok v W4 ∧ v = .bool jump.isNone ∧ W4 = W3.putObj l (.loop (recOf fn tm ps assign body d (if jump.isNone then .ready else .done) jump)) ∧ W3.heap[l]? = some ob ∧ W4.heap[l]? = some (.loop (recOf fn tm ps assign body d (if jump.isNone then .ready else .done) jump)) ∧ Marks Dl W4 := by
  intro jump W3 hk3
  have hl3 : W3.heap[l]? = some ob := hk3.same l ob hBl hl2 (by rw [hob]; rfl)
  have hlt3 := (Array.getElem?_eq_some_iff.1 hl3).1
  refine ⟨_, _, run_endRound jump (hl3.trans (by rw [hob])), rfl, rfl, hl3, World.putObj_heap_same hlt3, fun D hD' => (World.putObj_heap_other (hD D hD').2).trans (hk3.same D _ (hD D hD').1 (hk2 D hD') rfl)⟩
 have stop : ∀ (cc : Code) (W3 : World), KeepsFrom B (W1.putObj l ob) W3 → Ix cc (pre ++ [x]) W3 → ∃ v W4, (Instr.endRound l (some cc)).run P W3 = .ok v W4 ∧ ((Ending.returned v = .returned (.bool true) ∧ (I (pre ++ [x]) W4 ∧ W4.heap[l]? = some (.loop (recOf fn tm ps assign body d .ready none)) ∧ Marks Dl W4) ∧ KpF fp W1 W4) ∨ (Ending.returned v = .returned (.bool false) ∧ ∃ c', Ix c' (pre ++ [x]) W4 ∧ W4.heap[l]? = some (.loop (recOf fn tm ps assign body d .done (some c'))) ∧ Marks Dl W4)) := by
  intro cc W3 hk3 hx
  obtain ⟨v, W4, hr, rfl, rfl, hl3, hl4, hm4⟩ := fin (some cc) W3 hk3
  exact ⟨_, _, hr, .inr ⟨rfl, cc, (hIx cc).putObj _ hx hBl hl3 (by rw [hob]; rfl), hl4, hm4⟩⟩
 rintro e a3 W3 hp
 cases e with
 | normal =>
  obtain ⟨hk3, hkp3, hi3⟩ := hp
  obtain ⟨v, W4, hr, rfl, rfl, hl3, hl4, hm4⟩ := fin none W3 hk3
  refine ⟨_, _, hr, .inl ⟨rfl, ⟨hI.putObj _ hi3 hBl hl3 (by rw [hob]; rfl), hl4, hm4⟩, ?_⟩⟩
  have q1 : KpF fp W1 (W1.putObj l ob) := ⟨by simp, fun k hk _ => World.putObj_heap_other (hnl k hk)⟩
  exact (q1.trans hkp3).trans ⟨by simp, fun k hk _ => World.putObj_heap_other (hnl k hk)⟩
 | ret => exact stop .ret W3 hp.1 hp.2
 | exit id => exact stop (.exit id) W3 hp.1 hp.2
 | goto t => exact stop (.goto t) W3 hp.1 hp.2
 | panic ch => exact hp.elim
 | outgrown => exact hp.elim
theorem range_outer {F : Fence} {n : Nat} {P : Program} {g : Operand} {ps : Array Tmp} {assign body : Code} {Q : Exit → Act → World → Prop} {a : Act} {w : World} (hd : F.depth = none) (hro : F.round = none)
  {gf : Nat} {lb : Array Value} (hg : a.eval g = .func (.func gf) #[] lb) (hFg : F.fn gf) (eg : ∀ args w, (callFunc gf args).run P w = .ok (.enter gf args) w)
  {fp : Nat → Prop} (hfp : ∀ k, fp k → k < w.heap.size) {xs : List Tp} (hseq : SeqR F P gf lb fp xs w) (hps : ps.size = 1)
  (I : Nat → List Tp → World → Prop) (Ix : Nat → Code → List Tp → World → Prop) (hI : ∀ N, w.heap.size + 2 ≤ N → OwnFrom w.heap.size (I N)) (hIx : ∀ N c, w.heap.size + 2 ≤ N → OwnFrom w.heap.size (Ix N c)) (h0 : ∀ W', Below w.heap.size w W' → w.heap.size + 2 ≤ W'.heap.size → I W'.heap.size [] W') (a₁ : Tp → Option Addr → Nat → Act)
  (hassign : ∀ l x A c W (K : Act → World → Prop), K (a₁ x A c) W → assign.wpIn (F.inRound l) n P (Exit.then K (fun _ _ _ => False)) { tmps := (ps.zip #[Value.slice A x.length c]).foldl (fun t (p, v) => t.setIfInBounds p v) a.tmps, defers := [] } W)
  (hbody : ∀ N l pre x A c W0 W1, w.heap.size + 2 ≤ N → w.heap.size ≤ l → (∃ r, W1.heap[l]? = some (.loop r)) → I N pre W0 → pre ++ [x] <+: xs → Handed1 W0 W1 A c x → I N pre W1 → body.wpIn (F.inRound l) n P (ownPostG w.heap.size (KpF (Priv fp (w.heap.size + 2) N)) (I N) (Ix N) (pre ++ [x]) W1) (a₁ x A c) W1)
  (hdone : ∀ (N D : Nat) (W : World), w.heap.size + 2 ≤ N → w.heap.size ≤ D → I N xs W → W.heap[D]? = some (.deferred (some [])) → Q .normal { a with defers := { target := .collected D, args := #[] } :: a.defers } W)
  (hstop : ∀ (N D : Nat) (c : Code) (pre : List Tp) (W : World), w.heap.size + 2 ≤ N → w.heap.size ≤ D → pre <+: xs → Ix N c pre W → W.heap[D]? = some (.deferred (some [])) → c.wpIn F n P Q { a with defers := { target := .collected D, args := #[] } :: a.defers } W) :
  (Code.rangeFunc g ps assign body).wpIn F n P Q a w := by
 refine wpIn_rangeFunc ?_
 intro fn hfn
 rw [hro]
 obtain ⟨W1, hW1⟩ : ∃ W1, (w.alloc (.deferred (some []))).alloc (.loop (recOf fn a.tmps ps assign body w.heap.size .ready none)) = W1 := ⟨_, rfl⟩
 have hL1 : W1.heap[w.heap.size + 1]? = some (.loop (recOf fn a.tmps ps assign body w.heap.size .ready none)) := by
  rw [← hW1]; have := World.alloc_heap_new (w.alloc (.deferred (some []))) (.loop (recOf fn a.tmps ps assign body w.heap.size .ready none)); rwa [World.size_alloc] at this
 have hK1 : W1.heap[w.heap.size]? = some (.deferred (some [])) := by
  rw [← hW1]; exact (Below.heap_alloc _ _ _ (by simp)).trans (World.alloc_heap_new w _)
 have hb1 : Below w.heap.size w W1 := by rw [← hW1]; exact below_alloc (below_alloc (Below.refl _ _) _) _
 have hw1 : W1.heap.size = w.heap.size + 2 := by rw [← hW1]; simp
 refine ⟨w.heap.size + 1, [{ target := .collected w.heap.size, args := #[] }], W1, { target := .fn (.func gf) lb, args := #[.func (.yield (w.heap.size + 1)) #[] #[]] }, W1, gf,
  #[.func (.yield (w.heap.size + 1)) #[] #[]] ++ lb, W1, ?_, ?_, ?_, ?_, (fun h => by rw [hd] at h; cases h), ?_⟩
 ·rw [← hW1]; exact run_enterLoop_outer _ _ _ _ _
 ·simp only [resolve, hg]
  simp [go_sem]
 ·intro f' hf'; simp [Target.leads] at hf'; subst hf'; exact hFg
 ·simp [invoke, go_sem, eg]
 ·have hR : ∀ N, W1.heap.size ≤ N → _ := fun N hN => rounds_of (n := n) (P := P) (B := w.heap.size) (l := w.heap.size + 1) (d := w.heap.size) (tm := a.tmps) (ps := ps) (assign := assign) (body := body) hd (by omega) hfn (fp := Priv fp (w.heap.size + 2) N) hps (I N) (Ix N) (hI N (by omega)) (fun c => hIx N c (by omega)) [w.heap.size] (fun D hD => by simp at hD; subst hD; omega) (fun k hk e => hk.elim (fun h => absurd (hfp k h) (by omega)) (fun h => by omega)) a₁ (hassign _) (fun pre x A c W0 W1 => hbody N _ pre x A c W0 W1 (by omega) (by omega))
  have keep : ∀ {A B : World} {row : Option Nat} (k : Nat) (o : Obj), A.grownBy B row → (∀ r, row = some r → W1.heap.size ≤ r ∧ ∃ o : Obj, A.heap[r]? = some o ∧ o.isWalk = true) → A.heap[k]? = some o → k < W1.heap.size → B.heap[k]? = some o := fun k o hg hr hk hlt =>
   (hg.block k (Array.getElem?_eq_some_iff.1 hk).1 (fun e => by have := (hr k e.symm).1; omega)).trans hk
  have hnw : ∀ {A : World} {row : Option Nat}, (∀ r, row = some r → W1.heap.size ≤ r ∧ ∃ o : Obj, A.heap[r]? = some o ∧ o.isWalk = true) → (∀ r, row = some r → w.heap.size ≤ r ∧ ∃ o : Obj, A.heap[r]? = some o ∧ o.isCells = false) :=
   fun hr r e => by obtain ⟨hB, o, ho, hw⟩ := hr r e; exact ⟨by omega, o, ho, Obj.not_cells_of_walk hw⟩
  rw [← hw1] at hR
  refine (hseq (w.heap.size + 1) (fun N pre W => I N pre W ∧ W.heap[w.heap.size + 1]? = some (.loop (recOf fn a.tmps ps assign body w.heap.size .ready none)) ∧ Marks [w.heap.size] W) (fun N pre W => ∃ c, Ix N c pre W ∧ W.heap[w.heap.size + 1]? = some (.loop (recOf fn a.tmps ps assign body w.heap.size .done (some c))) ∧ Marks [w.heap.size] W) W1 hb1
   (fun N hN s A B row hs hg' hr => ⟨hI N (by omega) s A B row hs.1 hg' (hnw hr), keep _ _ hg' hr hs.2.1 (by omega), fun D hD => keep _ _ hg' hr (hs.2.2 D hD) (by simp at hD; omega)⟩)
   (fun N hN s A B row hs hg' hr => by
    obtain ⟨c, hc, hl, hk⟩ := hs
    exact ⟨c, hIx N c (by omega) s A B row hc hg' (hnw hr), keep _ _ hg' hr hl (by omega), fun D hD => keep _ _ hg' hr (hk D hD) (by simp at hD; omega)⟩) hR
   (fun W' hW' => ⟨h0 W' (below_then hb1 hb1.size hW') (by have := hW'.size; omega), blk hW' hL1, fun D hD => by simp at hD; subst hD; exact blk hW' hK1⟩) (n - 1)).mono ?_
  rintro e W2 ⟨⟨v, rfl⟩, N, hN, (⟨hi, hl, hk⟩ | ⟨pre, hpre, c, hi, hl, hk⟩)⟩
  ·exact ⟨none, _, run_endLoop hl (by simp [recOf]), hdone N _ _ (by omega) (Nat.le_refl _) ((hI N (by omega)).putObj _ hi (by omega) hl rfl) ((World.putObj_heap_other (by omega)).trans (hk _ (by simp)))⟩
  ·exact ⟨some c, _, run_endLoop hl (by simp [recOf]), hstop N _ c pre _ (by omega) (Nat.le_refl _) hpre ((hIx N c (by omega)).putObj _ hi (by omega) hl rfl) ((World.putObj_heap_other (by omega)).trans (hk _ (by simp)))⟩
end Go.Proofs.YtcmllllbmgcnlaaGreat.Tup
end
section
namespace Go.Proofs.YtcmllllbmgcnlaaGreat.Tup
open Go.RowKit Go.Lib Go.Shelf Go.Proofs.YtcmllllbmgcnlaaGreat.G Go.Proofs.YtcmllllbmgcnlaaGreatW.PrintWords Go.Proofs.YtcmllllbmgcnlaaGreatW.PrintLast Go.Proofs.YtcmllllbmgcnlaaGreatW.PrintMore
set_option linter.unusedVariables false
set_option linter.unusedSimpArgs false
attribute [local go_sem] Oper.semAt_some
def IsCells (W : World) (k : Nat) : Prop := ∃ o : Obj, W.heap[k]? = some o ∧ o.isCells = true
def IsInts (W : World) (k : Nat) : Prop := ∃ cs fr, W.heap[k]? = some (.cells cs 3 fr)
theorem IsInts.cells {W : World} {k : Nat} (h : IsInts W k) : IsCells W k := by obtain ⟨cs, fr, h⟩ := h; exact ⟨_, h, rfl⟩
theorem isCells_kept {W W' : World} {row : Option Nat} {k : Nat} (h : IsCells W k) (hg : W.grownBy W' row) (hr : ∀ r, row = some r → ∃ o : Obj, W.heap[r]? = some o ∧ o.isCells = false) : W'.heap[k]? = W.heap[k]? ∧ IsCells W' k := by
 obtain ⟨o, ho, hc⟩ := h
 have e : W'.heap[k]? = W.heap[k]? := hg.block k (Array.getElem?_eq_some_iff.1 ho).1 (fun e => by
  obtain ⟨o', ho', hc'⟩ := hr k e.symm
  rw [ho] at ho'; injection ho' with ho'; rw [ho', hc'] at hc; cases hc)
 exact ⟨e, o, e.trans ho, hc⟩
theorem Handed1.later {W0 W1 W2 : World} {A : Option Addr} {c : Nat} {x : Tp} (h : Handed1 W0 W1 A c x) (hb : Below W1.heap.size W1 W2) : Handed1 W0 W2 A c x :=
 ⟨below_then h.1 h.1.size hb, own_move h.2 fun k hk => hb.block k (own_lt h.2 k hk.symm)⟩
set_option maxRecDepth 100000 in
set_option maxHeartbeats 1000000 in
theorem yieldR_in (F : Fence) (hd : F.depth = none) (hF : ∀ f, F.fn f) (hro : F.round = none) (l : Nat) (fp : Nat → Prop) (J Jx : List Tp → World → Prop) (xs : List Tp) (B5 B3 B2 B4 : Nat) (Ao : Option Addr) (co : Nat) (o : Tp) (k : Int) (Ak : Option Addr) (ck : Nat) (key : Tp)
  (hhd : ∀ n W A c x, Sl W Ao co o → Sl W A c x → Sl W Ak ck key → CallsIn F n Tryz.prog 78 #[.slice Ao o.length co, .int .i64 k, .slice A x.length c, .slice Ak key.length ck] W fun e w' => e = .returned (.bool (headS o k x key)) ∧ Below W.heap.size W w')
  (hR : Rounds F Tryz.prog l J Jx fp xs) (m : Nat) (pre : List Tp) (x : Tp) (A : Option Addr) (c : Nat) (W0 W1 : World) (c5 : W1.cell? ⟨B5, 0, none⟩ = some (.slice Ao o.length co)) (c3 : W1.cell? ⟨B3, 0, none⟩ = some (.int .i64 k)) (c2 : W1.cell? ⟨B2, 0, none⟩ = some (.slice Ak key.length ck)) (c4 : W1.cell? ⟨B4, 0, none⟩ = some (.func (.yield l) #[] #[])) (so : Sl W1 Ao co o) (sk : Sl W1 Ak ck key)
  (hJ : J pre W0) (hpre : headS o k x key = true → pre ++ [x] <+: xs) (hh : Handed1 W0 W1 A c x) :
  CallsIn F m Tryz.prog 77 #[.slice A x.length c, .pointer (some ⟨B5, 0, none⟩), .pointer (some ⟨B3, 0, none⟩), .pointer (some ⟨B2, 0, none⟩), .pointer (some ⟨B4, 0, none⟩)] W1 fun e W' =>
   (e = .returned (.bool true) ∧ headS o k x key = true ∧ J (pre ++ [x]) W' ∧ KpF fp W1 W') ∨ (e = .returned (.bool false) ∧ ((headS o k x key = true ∧ Jx (pre ++ [x]) W') ∨ (headS o k x key = false ∧ Below W1.heap.size W1 W'))) := by
 have hdd : ∀ k : Nat, (F.depth.isSome = true → 1 ≤ k) := fun k h => by rw [hd] at h; cases h
 have HC := Aside0.mk (hhd (m - 1) W1 A c x so hh.sl sk)
 have HR := Aside0.mk hR
 have HH := Aside0.mk hh
 have HJ := Aside0.mk hJ
 have HP := Aside0.mk hpre
 clear hhd hR hh hJ hpre so sk
 by_cases hx : headS o k x key = true
 ·rw [hx] at HC
  have HX := Aside0.mk hx
  clear hx
  refine callsIn_of_wp Tryz.func77 rfl (hF _) ?_ hro
  simp only [Tryz.ntmps77, List.size_toArray, List.length_cons, List.length_nil, Nat.reduceAdd, Nat.reduceSub, Array.replicate_succ, Array.replicate_zero, List.push_toArray, List.append_toArray, List.nil_append, List.cons_append]
  gi_wp2_with (first
   | ((try refine ⟨hdd _, ?_⟩); gi_at_call 78; refine HC.out.mono ?_; clear HC; rintro e w2 ⟨rfl, hb⟩; have c4b := pw_cell_below hb c4; obtain ⟨fn, tmps, assign, body, hy, hRo⟩ := HR.out (m - 1) pre x A c W0 w2 HJ.out (HP.out HX.out) (HH.out.later hb); have HB := Aside0.mk hb; clear hb)
   | ((try refine ⟨hdd _, ?_⟩); refine hRo.mono ?_; clear hRo; rintro e w3 (⟨rfl, hJ3, hk3⟩ | ⟨rfl, hx3⟩)))
  ·go_ret
   exact .inl ⟨rfl, HX.out, hJ3, (KpF.below HB.out).trans hk3⟩
  ·go_ret
   exact .inr ⟨rfl, .inl ⟨HX.out, hx3⟩⟩
 ·have hx2 : headS o k x key = false := by simpa using hx
  rw [hx2] at HC
  have HX := Aside0.mk hx2
  clear hx hx2
  refine callsIn_of_wp Tryz.func77 rfl (hF _) ?_ hro
  simp only [Tryz.ntmps77, List.size_toArray, List.length_cons, List.length_nil, Nat.reduceAdd, Nat.reduceSub, Array.replicate_succ, Array.replicate_zero, List.push_toArray, List.append_toArray, List.nil_append, List.cons_append]
  gi_wp2_with (first
   | ((try refine ⟨hdd _, ?_⟩); gi_at_call 78; refine HC.out.mono ?_; clear HC; rintro e w2 ⟨rfl, hb⟩; have HB := Aside0.mk hb; clear hb))
  go_ret
  exact .inr ⟨rfl, .inr ⟨HX.out, HB.out⟩⟩
def rangeL (o : Tp) (k : Int) (key : Tp) (L : List Tp) : List Tp := if key.length = o.length then (sel (pR o k key) L).takeWhile (fun x => headS o k x key) else []
set_option maxRecDepth 100000 in
set_option maxHeartbeats 1000000 in
theorem range1_in (F : Fence) (hd : F.depth = none) (hF : ∀ f, F.fn f) (hro : F.round = none) (l : Nat) (W : World) (Bs Bk Bi bs rt : Nat) (Ao : Option Addr) (co : Nat) (o : Tp) (Ak : Option Addr) (ck : Nat) (key : Tp) (hBs : W.cell? ⟨Bs, 0, none⟩ = some (.pointer (some ⟨bs, 0, none⟩))) (hBk : W.cell? ⟨Bk, 0, none⟩ = some (.slice Ak key.length ck)) (h0 : W.cell? ⟨bs, 0, none⟩ = some (.bool true)) (h1 : W.cell? ⟨bs, 1, none⟩ = some (.slice Ao o.length co)) (h2 : W.cell? ⟨bs, 2, none⟩ = some (.pointer (some ⟨rt, 0, none⟩))) (R : World → Prop)
  (hfit : ∀ n W, W.cell? ⟨bs, 0, none⟩ = some (.bool true) → W.cell? ⟨bs, 1, none⟩ = some (.slice Ao o.length co) → CallsIn F n Tryz.prog 65 #[.pointer (some ⟨bs, 0, none⟩), .slice Ak key.length ck] W fun e w' => e = .returned (.bool (decide (key.length = o.length))) ∧ W = w')
  (hno : key.length ≠ o.length → ∀ W', Below W.heap.size W W' → R W')
  (hw : key.length = o.length → ∀ n Ww, Below W.heap.size W Ww → Ww.cell? ⟨W.heap.size, 0, none⟩ = some (.func (.yield l) #[] #[]) → Ww.cell? ⟨W.heap.size + 1, 0, none⟩ = some (.slice Ao o.length co) → W.heap.size + 2 ≤ Ww.heap.size → CallsIn F n Tryz.prog 76 #[.pointer (some ⟨rt, 0, none⟩), .func (.func 75) #[] #[.pointer (some ⟨W.heap.size + 1, 0, none⟩), .pointer (some ⟨Bi, 0, none⟩), .pointer (some ⟨Bk, 0, none⟩)], .func (.func 77) #[] #[.pointer (some ⟨W.heap.size + 1, 0, none⟩), .pointer (some ⟨Bi, 0, none⟩), .pointer (some ⟨Bk, 0, none⟩), .pointer (some ⟨W.heap.size, 0, none⟩)]] Ww fun e w' => (∃ b, e = .returned (.bool b)) ∧ R w') (n : Nat) :
  CallsIn F n Tryz.prog 74 #[.func (.yield l) #[] #[], .pointer (some ⟨Bs, 0, none⟩), .pointer (some ⟨Bk, 0, none⟩), .pointer (some ⟨Bi, 0, none⟩)] W fun e W' => (∃ v, e = .returned v) ∧ R W' := by
 have hdd : ∀ k : Nat, (F.depth.isSome = true → 1 ≤ k) := fun k h => by rw [hd] at h; cases h
 have hb1 : Below W.heap.size W (W.alloc (.cells #[.func (.yield l) #[] #[]] 111)) := below_alloc (Below.refl _ _) _
 have q1 := pw_cell_below hb1 hBs
 have q2 := pw_cell_below hb1 hBk
 have q3 := pw_cell_below hb1 h0
 have q4 := pw_cell_below hb1 h1
 have HF := Aside0.mk hfit
 have HNO := Aside0.mk hno
 have HW := Aside0.mk hw
 have hfc := HF.out (n - 1) _ q3 q4
 clear hfit hno hw
 by_cases hk : key.length = o.length
 ·have hdec := decide_eq_true hk
  rw [hdec] at hfc
  have HK := Aside0.mk hk
  clear hdec hk
  refine callsIn_of_wp Tryz.func74 rfl (hF _) ?_ hro
  simp only [Tryz.ntmps74, List.size_toArray, List.length_cons, List.length_nil, Nat.reduceAdd, Nat.reduceSub, Array.replicate_succ, Array.replicate_zero, List.push_toArray, List.append_toArray, List.nil_append, List.cons_append]
  have hbw : Below W.heap.size W ((W.alloc (.cells #[.func (.yield l) #[] #[]] 111)).alloc (.cells #[.slice Ao o.length co] 23)) := below_alloc hb1 _
  have q5 := pw_cell_below hbw hBs
  have q6 := pw_cell_below hbw h2
  have HBW := Aside0.mk hbw
  have HC4 := Aside0.mk (show ((W.alloc (.cells #[.func (.yield l) #[] #[]] 111)).alloc (.cells #[.slice Ao o.length co] 23)).cell? ⟨W.heap.size, 0, none⟩ = some (.func (.yield l) #[] #[]) from
   (cell_of_heap (blk (below_alloc (Below.refl _ _) _) (heap_alloc_new W (.cells #[.func (.yield l) #[] #[]] 111))) 0).trans rfl)
  have HC5 := Aside0.mk (show ((W.alloc (.cells #[.func (.yield l) #[] #[]] 111)).alloc (.cells #[.slice Ao o.length co] 23)).cell? ⟨W.heap.size + 1, 0, none⟩ = some (.slice Ao o.length co) from by
   have := heap_alloc_new (W.alloc (.cells #[.func (.yield l) #[] #[]] 111)) (.cells #[.slice Ao o.length co] 23)
   rw [World.size_alloc] at this
   exact (cell_of_heap this 0).trans rfl)
  have HSZ : Aside0 (W.heap.size + 2 ≤ ((W.alloc (.cells #[.func (.yield l) #[] #[]] 111)).alloc (.cells #[.slice Ao o.length co] 23)).heap.size) := ⟨by simp⟩
  clear hbw
  gi_wp2_with (first
   | ((try refine ⟨hdd _, ?_⟩); gi_at_call 65; refine hfc.mono ?_; clear hfc; rintro e w1 ⟨rfl, rfl⟩)
   | ((try refine ⟨hdd _, ?_⟩); gi_at_call 76; refine (HW.out HK.out _ _ HBW.out HC4.out HC5.out HSZ.out).mono ?_; rintro e w3 ⟨⟨b, rfl⟩, hR3⟩))
  go_end0
  exact ⟨⟨_, rfl⟩, hR3⟩
 ·have hdec := decide_eq_false hk
  rw [hdec] at hfc
  have HK := Aside0.mk hk
  clear hdec hk
  refine callsIn_of_wp Tryz.func74 rfl (hF _) ?_ hro
  simp only [Tryz.ntmps74, List.size_toArray, List.length_cons, List.length_nil, Nat.reduceAdd, Nat.reduceSub, Array.replicate_succ, Array.replicate_zero, List.push_toArray, List.append_toArray, List.nil_append, List.cons_append]
  gi_wp2_with (first
   | ((try refine ⟨hdd _, ?_⟩); gi_at_call 65; refine hfc.mono ?_; clear hfc; rintro e w1 ⟨rfl, rfl⟩))
  refine bodyPost_ret (results_none rfl _ _ _) rfl ?_
  exact ⟨⟨_, rfl⟩, HNO.out HK.out _ hb1⟩
theorem pR_closed {o : Tp} {k : Int} {key x y : Tp} (hxy : Lt o x y) (hy : pR o k key y = true) : pR o k key x = true := by
 have hy' : cmpL (o.take k.toNat) y key < 0 := by simpa [pR] using hy
 have h1 : cmpL (o.take k.toNat) x y ≤ 0 := by
  have : ∀ (o : Tp) (m : Nat), cmpL o x y ≤ 0 → cmpL (o.take m) x y ≤ 0 := by
   intro o
   induction o with
   | nil => intro m h; simpa using h
   | cons c o ih =>
    intro m h
    cases m with
    | zero => simp [cmpL]
    | succ m =>
     simp only [List.take_succ_cons, cmpL] at h ⊢
     by_cases p1 : rd x c < rd y c
     ·rw [if_pos p1]; decide
     ·rw [if_neg p1] at h ⊢
      by_cases p2 : rd x c > rd y c
      ·rw [if_pos p2] at h; omega
      ·rw [if_neg p2] at h ⊢; exact ih m h
  exact this o _ (by have : cmpL o x y < 0 := hxy; omega)
 have h2 := cmpL_trans (o.take k.toNat) x y key h1 (by omega)
 have h3 : cmpL (o.take k.toNat) x key ≠ 0 := by
  intro h0
  have h4 : cmpL (o.take k.toNat) key x = 0 := by rw [cmpL_flip, h0]; rfl
  have h5 := cmpL_trans (o.take k.toNat) key x y (by omega) h1
  have h6 := cmpL_flip (o.take k.toNat) y key
  omega
 simp [pR]; omega
theorem take_pre {α : Type} (p : α → Bool) {pre L : List α} (h : pre <+: L) (ha : ∀ a ∈ pre, p a = true) : pre <+: L.takeWhile p := by
 obtain ⟨r, rfl⟩ := h
 rw [List.takeWhile_append_of_pos ha]
 exact List.prefix_append _ _
theorem take_stop {α : Type} (p : α → Bool) {pre L : List α} {x : α} (h : pre ++ [x] <+: L) (ha : ∀ a ∈ pre, p a = true) (hx : p x = false) : L.takeWhile p = pre := by
 obtain ⟨r, rfl⟩ := h
 rw [List.append_assoc, List.takeWhile_append_of_pos ha]
 simp [hx]
theorem take_all {α : Type} (p : α → Bool) {L : List α} (ha : ∀ a ∈ L, p a = true) : L.takeWhile p = L := by
 have := List.takeWhile_append_of_pos (p := p) (l₁ := L) (l₂ := []) ha
 simpa using this
theorem range_seq {ok fp : Nat → Prop} (w : World) (Bs Bk Bi bs : Nat) {A : Option Addr} {c : Nat} {o : Tp} {rt : Nat} {T : BT} (h : SetAt ok w bs A c o rt T) (hfp : ∀ k, ok k → fp k) (hBs : w.cell? ⟨Bs, 0, none⟩ = some (.pointer (some ⟨bs, 0, none⟩))) (Ak : Option Addr) (ck : Nat) (key : Tp) (hBk : w.cell? ⟨Bk, 0, none⟩ = some (.slice Ak key.length ck)) (fBk : fp Bk) (hck : key.length ≤ ck) (hkey : Kd.F (Kd.int .i64) w fp Ak key.length key) (k : Int) (hBi : w.cell? ⟨Bi, 0, none⟩ = some (.int .i64 k)) (fBi : fp Bi) :
  SeqR Fence.wide Tryz.prog 74 #[.pointer (some ⟨Bs, 0, none⟩), .pointer (some ⟨Bk, 0, none⟩), .pointer (some ⟨Bi, 0, none⟩)] fp (rangeL o k key T.io) w := by
 intro l J Jx W hW hJ hJx hR h0 n
 have hs := h.since ⟨hW⟩
 have hBkW := pw_cell_below hW hBk
 have hBiW := pw_cell_below hW hBi
 refine range1_in Fence.wide rfl (fun _ => trivial) rfl l W Bs Bk Bi bs rt A c o Ak ck key (pw_cell_below hW hBs) hBkW hs.c0 hs.c1 hs.c2 _ (fun n W a b => callsIn_wide.2 (fits_calls W bs A c o a b Ak ck key)) (fun hl W' hb => ⟨W'.heap.size, hb.size, .inl (by rw [rangeL, if_neg hl]; exact h0 W' hb)⟩) (fun hl n Ww hb c4 c5 hsz => ?_) n
 have hxs : rangeL o k key T.io = (sel (pR o k key) T.io).takeWhile (fun x => headS o k x key) := by rw [rangeL, if_pos hl]
 rw [hxs] at hR ⊢
 have hsw := hs.since ⟨hb⟩
 have hkW : Kd.F (Kd.int .i64) Ww (Priv fp W.heap.size Ww.heap.size) Ak key.length key := Kd.F_mono (Kd.F_below (Kd.F_below hkey hW) hb) (fun k hk => .inl hk)
 have hoW : Kd.F (Kd.int .i64) Ww (Priv fp W.heap.size Ww.heap.size) A o.length o := Kd.F_mono hsw.F (fun k hk => .inl (hfp k hk))
 have p5 : Priv fp W.heap.size Ww.heap.size (W.heap.size + 1) := .inr ⟨by omega, by omega⟩
 have p4 : Priv fp W.heap.size Ww.heap.size W.heap.size := .inr ⟨by omega, by omega⟩
 have c3 := pw_cell_below hb hBiW
 have c2 := pw_cell_below hb hBkW
 have hRN := hR Ww.heap.size (by omega)
 have hJN := hJ Ww.heap.size (by omega)
 have := walkR_in (W.heap.size + 1) Bi Bk W.heap.size Fence.wide rfl (fun _ => trivial) rfl l (Priv fp W.heap.size Ww.heap.size) (fun pre V => J Ww.heap.size pre V ∧ ∀ a ∈ pre, headS o k a key = true) (fun q V => (Jx Ww.heap.size q V ∧ q <+: (sel (pR o k key) T.io).takeWhile (fun x => headS o k x key)) ∨ J Ww.heap.size ((sel (pR o k key) T.io).takeWhile (fun x => headS o k x key)) V) (sel (pR o k key) T.io) o (pR o k key) Ww (fun a => a.length = o.length) (fun a ha => by have := hs.rto.1; omega) clone_wide
  (fun n V A2 c2' x hK hQ hsl => callsIn_wide.2 (belowR_calls V _ _ _ A c o k Ak ck key (hK.cell p5 c5) (hK.cell (.inl fBi) c3) (hK.cell (.inl fBk) c2) ⟨Kd.F_now (Kd.F_step hoW hK.same), hs.so⟩ ⟨Kd.F_now (Kd.F_step hkW hK.same), hck⟩ hs.rto hl A2 c2' x hsl hQ))
  (fun s V V' hj hb => ⟨abides_none hJN s V V' hj.1 hb, hj.2⟩)
  (fun m pre x A2 c2' V0 V1 hK hj hpre hh => by
   refine (yieldR_in Fence.wide rfl (fun _ => trivial) rfl l (Priv fp W.heap.size Ww.heap.size) (J Ww.heap.size) (Jx Ww.heap.size) _ (W.heap.size + 1) Bi Bk W.heap.size A c o k Ak ck key (fun n V A3 c3 x so sx sk => callsIn_wide.2 (head_calls A c o k A3 c3 x Ak ck key V so sx sk)) hRN m pre x A2 c2' V0 V1 (hK.cell p5 c5) (hK.cell (.inl fBi) c3) (hK.cell (.inl fBk) c2) (hK.cell p4 c4) ⟨Kd.F_now (Kd.F_step hoW hK.same), hs.so⟩ ⟨Kd.F_now (Kd.F_step hkW hK.same), hck⟩ hj.1 (fun hx => take_pre _ hpre (fun a ha => by
    rcases List.mem_append.1 ha with ha | ha
    ·exact hj.2 a ha
    ·simp at ha; subst ha; exact hx)) hh).mono ?_
   rintro e V' (⟨rfl, hx, hJ', hk'⟩ | ⟨rfl, ⟨hx, hx'⟩ | ⟨hx, hb'⟩⟩)
   ·exact .inl ⟨rfl, ⟨hJ', fun a ha => by
     rcases List.mem_append.1 ha with ha | ha
     ·exact hj.2 a ha
     ·simp at ha; subst ha; exact hx⟩, hk'⟩
   ·exact .inr ⟨rfl, .inl ⟨hx', take_pre _ hpre (fun a ha => by
     rcases List.mem_append.1 ha with ha | ha
     ·exact hj.2 a ha
     ·simp at ha; subst ha; exact hx)⟩⟩
   ·refine .inr ⟨rfl, .inr ?_⟩
    rw [take_stop _ hpre hj.2 hx]
    exact abides_none hJN _ _ _ hj.1 (below_then hh.1 hh.1.size hb'))
  _ T (Nat.lt_succ_self _) n rt [] Ww (hsw.nd.mono fun k hk => .inl (hfp k hk)) hsw.wf hsw.up (fun x y _ _ hxy hy => pR_closed hxy hy) (fun a ha => (hs.fit a ha).1) hs.le (KpF.refl _ _) ⟨h0 Ww hb, fun a ha => by simp at ha⟩ (by simp)
 refine this.mono ?_
 rintro e V' (⟨rfl, ⟨hj, hall⟩, hk⟩ | ⟨rfl, q, hq, hx⟩)
 ·refine ⟨⟨_, rfl⟩, Ww.heap.size, by omega, .inl ?_⟩
  rw [List.nil_append] at hj hall
  rw [take_all _ hall]; exact hj
 ·refine ⟨⟨_, rfl⟩, Ww.heap.size, by omega, ?_⟩
  rcases hx with ⟨hx, hp⟩ | hx
  ·exact .inr ⟨_, hp, hx⟩
  ·exact .inl hx
end Go.Proofs.YtcmllllbmgcnlaaGreat.Tup
end
section
namespace Go.Proofs.YtcmllllbmgcnlaaGreat.Tup
open Go.RowKit Go.Lib Go.Shelf Go.Proofs.YtcmllllbmgcnlaaGreat.G Go.Proofs.YtcmllllbmgcnlaaGreatW.PrintWords Go.Proofs.YtcmllllbmgcnlaaGreatW.PrintLast Go.Proofs.YtcmllllbmgcnlaaGreatW.PrintMore
set_option linter.unusedVariables false
set_option linter.unusedSimpArgs false
def RangeC (W : World) (v : Value) (k : Int) (t : Tp) (e : Ending) (w' : World) : Prop :=
 ∃ Bs Bk Bi Ak ck, e = .returned (.func (.func 74) #[] #[.pointer (some ⟨Bs, 0, none⟩), .pointer (some ⟨Bk, 0, none⟩), .pointer (some ⟨Bi, 0, none⟩)]) ∧ w'.cell? ⟨Bs, 0, none⟩ = some v ∧ w'.cell? ⟨Bi, 0, none⟩ = some (.int .i64 k) ∧ w'.cell? ⟨Bk, 0, none⟩ = some (.slice Ak t.length ck) ∧ t.length ≤ ck ∧ Kd.F (Kd.int .i64) w' (fun j => W.heap.size ≤ j) Ak t.length t ∧ Below W.heap.size W w'
set_option maxHeartbeats 2000000 in
set_option maxRecDepth 100000 in
theorem rangec_calls (W : World) (p : Option Addr) (k : Int) (At : Option Addr) (ct : Nat) (t : Tp) (st : Sl W At ct t) (hn : t.length ≤ 1000000) :
  Calls Tryz.prog 49 #[.pointer p, .int .i64 k, .slice At t.length ct] W (RangeC W (.pointer p) k t) := by
 have HST := Aside0.mk st
 have HN := Aside0.mk hn
 clear st hn
 have hb2 : Below W.heap.size W ((W.alloc (.cells #[.pointer p] 99)).alloc (.cells #[.int .i64 k] 3)) := below_alloc (below_alloc (Below.refl _ _) _) _
 have HB2 := Aside0.mk hb2
 have HS2 := Aside0.mk (Sl.below HST.out hb2)
 clear hb2
 go_enter Tryz.func49, Tryz.ntmps49
 go_wp2_with (go_at_call 44; ((with_reducible refine (cloneI_calls _ At ct t HS2.out HN.out).mono ?_)); rintro e w2 ⟨A2, c2, rfl, hc2, hF2, hb2⟩)
 go_ret
 have hlt : ((W.alloc (.cells #[.pointer p] 99)).alloc (.cells #[.int .i64 k] 3)).heap.size = W.heap.size + 2 := by simp
 have hbw : Below W.heap.size W w2 := below_then HB2.out HB2.out.size hb2
 have a3 := below_alloc (Below.refl w2.heap.size w2) (.cells #[.slice A2 t.length c2] 23)
 refine ⟨W.heap.size, w2.heap.size, W.heap.size + 1, A2, c2, rfl, ?_, ?_, ?_, hc2, Kd.F_mono (Kd.F_below hF2 a3) (fun j hj => by omega), below_then hbw hbw.size a3⟩
 ·exact (cell_of_heap (blk a3 (blk hb2 (blk (below_alloc (Below.refl _ _) _) (heap_alloc_new W (.cells #[.pointer p] 99))))) 0).trans rfl
 ·have := heap_alloc_new (W.alloc (.cells #[.pointer p] 99)) (.cells #[.int .i64 k] 3)
  rw [World.size_alloc] at this
  exact (cell_of_heap (blk a3 (blk hb2 this)) 0).trans rfl
 ·exact (cell_of_heap (heap_alloc_new w2 (.cells #[.slice A2 t.length c2] 23)) 0).trans rfl
theorem sel_len (p : Tp → Bool) (L : List Tp) : (sel p L).length ≤ L.length := List.length_filter_le _ _
theorem rangeL_len (o : Tp) (k : Int) (key : Tp) (L : List Tp) : (rangeL o k key L).length ≤ L.length := by
 unfold rangeL
 split
 ·exact Nat.le_trans (List.takeWhile_prefix _).length_le (sel_len _ _)
 ·simp
def NewR (W : World) (o : Tp) (e : Ending) (w' : World) : Prop :=
 Below W.heap.size W w' ∧ ∃ bs A c rt, e = .returned (.tuple #[.pointer (some ⟨bs, 0, none⟩), .int .i64 0]) ∧ W.heap.size ≤ bs ∧ SetAt (fun k => W.heap.size ≤ k ∧ k < w'.heap.size ∧ k ≠ bs) w' bs A c o rt (.mk [] [])
theorem setAt_new {W w2 : World} {A : Option Addr} {c : Nat} {o : Tp} (ho : Rt o) (hb : Below W.heap.size W w2) (hc : o.length ≤ c) (hF : Kd.F (Kd.int .i64) w2 (fun k => W.heap.size ≤ k) A o.length o) :
  let w' := (w2.alloc (.cells #[.slice none 0 0, .slice none 0 0] 132)).alloc (.cells #[.bool true, .slice A o.length c, .pointer (some ⟨w2.heap.size, 0, none⟩), .int .i64 0] 128)
  Below W.heap.size W w' ∧ W.heap.size ≤ w2.heap.size + 1 ∧ SetAt (fun k => W.heap.size ≤ k ∧ k < w'.heap.size ∧ k ≠ w2.heap.size + 1) w' (w2.heap.size + 1) A c o w2.heap.size (.mk [] []) := by
 intro w'
 have a1 := below_alloc (Below.refl w2.heap.size w2) (.cells #[.slice none 0 0, .slice none 0 0] 132)
 have z1 : (w2.alloc (.cells #[.slice none 0 0, .slice none 0 0] 132)).heap.size = w2.heap.size + 1 := by simp
 have a2 := below_alloc (Below.refl (w2.alloc (.cells #[.slice none 0 0, .slice none 0 0] 132)).heap.size (w2.alloc (.cells #[.slice none 0 0, .slice none 0 0] 132))) (.cells #[.bool true, .slice A o.length c, .pointer (some ⟨w2.heap.size, 0, none⟩), .int .i64 0] 128)
 have hs2 : W.heap.size ≤ w2.heap.size := hb.size
 have zz : w'.heap.size = w2.heap.size + 2 := by simp [w']
 have hbw : Below w2.heap.size w2 w' := below_then a1 a1.size a2
 have hn : w'.heap[w2.heap.size]? = some (.cells #[.slice none 0 0, .slice none 0 0] 132 (0, 0)) := blk a2 (heap_alloc_new w2 _)
 have hp : w'.heap[w2.heap.size + 1]? = some (.cells #[.bool true, .slice A o.length c, .pointer (some ⟨w2.heap.size, 0, none⟩), .int .i64 0] 128 (0, 0)) := by
  have := heap_alloc_new (w2.alloc (.cells #[.slice none 0 0, .slice none 0 0] 132)) (.cells #[.bool true, .slice A o.length c, .pointer (some ⟨w2.heap.size, 0, none⟩), .int .i64 0] 128)
  rw [z1] at this; exact this
 refine ⟨below_then hb hb.size hbw, by omega, ⟨by rw [BT.io_mk]; exact hp, hc, ?_, ?_, (BT.ok_mk _ _).2 ⟨.inl rfl, by simp⟩, ho, fun a ha => by rw [BT.io_mk] at ha; simp [weave] at ha, by rw [BT.io_mk]; exact List.Pairwise.nil, by rw [BT.io_mk]; simp [weave], fun h => h.2.2 rfl⟩⟩
 ·refine Kd.F_mono (Kd.F_below (Kd.F_bound hF) hbw) fun k hk => ⟨hk.1, by have := hk.2; omega, by have := hk.2; omega⟩
 ·exact .mk _ none 0 none 0 [] [] [] ⟨hs2, by omega, by omega⟩ ((cell_of_heap hn 0).trans rfl) ((cell_of_heap hn 1).trans rfl) (Nat.le_refl _) (Nat.le_refl _) rfl (Kd.F_nil KT _ _) (Kd.F_nil KN _ _) (fun i h => by simp at h)
set_option maxHeartbeats 2000000 in
set_option maxRecDepth 100000 in
theorem new_yes (W : World) (A0 : Option Addr) (c0 : Nat) (o : Tp) (h0 : Sl W A0 c0 o) (ho : Rt o) :
  Calls Tryz.prog 63 #[.slice A0 o.length c0] W (NewR W o) := by
 have HR := Aside0.mk (right_calls A0 c0 o W h0)
 rw [decide_eq_true ho] at HR
 have HO := Aside0.mk ho
 have H0 := Aside0.mk h0
 have HL : Aside0 (o.length ≤ 1000000) := ⟨by have := ho.1; omega⟩
 clear ho h0
 go_enter Tryz.func63, Tryz.ntmps63
 go_wp2_with (first
  | (go_at_call 69; refine HR.out.mono ?_; rintro e w1 ⟨rfl, hd⟩; have hs := Since.ofDrawn hd)
  | (go_at_call 44; ((with_reducible refine (cloneI_calls _ A0 c0 o (hs.sl H0.out) HL.out).mono ?_)); rintro e w2 ⟨A2, c2, rfl, hc2, hF2, hb2⟩))
 go_ret2
 have hq := setAt_new HO.out (hs.step hb2).b hc2 (Kd.F_mono hF2 fun k hk => Nat.le_trans hs.b.size hk)
 exact ⟨hq.1, _, A2, c2, w2.heap.size, rfl, hq.2.1, hq.2.2⟩
end Go.Proofs.YtcmllllbmgcnlaaGreat.Tup
end
