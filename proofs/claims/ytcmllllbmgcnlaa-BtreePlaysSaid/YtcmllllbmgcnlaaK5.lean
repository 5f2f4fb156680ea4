/- (*node).walk, as Range calls it. -/
import Derived.Test.YtcmllllbmgcnlaaK2
namespace Go.Proofs.Ytcmllllbmgcnlaa.Tup
open Go.RowKit Go.Lib Go.Shelf Go.Proofs.Ytcmllllbmgcnlaa.F Go.Proofs.YtcmllllbmgcnlaaW.PrintWords Go.Proofs.YtcmllllbmgcnlaaW.PrintLast Go.Proofs.YtcmllllbmgcnlaaW.PrintMore
set_option linter.unusedVariables false
set_option linter.unusedSimpArgs false
attribute [local go_sem] Oper.semAt_some

set_option maxRecDepth 100000 in
set_option maxHeartbeats 4000000 in
theorem walkR_in (B5 B3 B2 B4 : Nat) (F : Fence) (hd : F.depth = none) (hF : ∀ f, F.fn f) (hro : F.round = none) (l : Nat) (fp : Nat → Prop) (J Jx : List Tp → World → Prop) (xs : List Tp) (o : Tp) (p : Tp → Bool) (Ws : World) (Q : Tp → Prop) (hQ : ∀ a, Q a → a.length ≤ 1000)
    (hcl : ∀ n W A c t, Sl W A c t → t.length ≤ 1000000 → CallsIn F n Try.prog 47 #[.slice A t.length c] W fun e w' => ∃ A' c', e = .returned (.slice A' t.length c') ∧ Handed1 W w' A' c' t)
    (hbl : ∀ n W A c t, KpF fp Ws W → Q t → Sl W A c t → CallsIn F n Try.prog 60 #[.slice A t.length c, .pointer (some ⟨B5, 0, none⟩), .pointer (some ⟨B3, 0, none⟩), .pointer (some ⟨B2, 0, none⟩)] W fun e w' => e = .returned (.bool (p t)) ∧ Below W.heap.size W w')
    (hJ : ∀ s W W', J s W → Below W.heap.size W W' → J s W') (hR : ∀ m pre x A c W0 W1, KpF fp Ws W1 → J pre W0 → pre ++ [x] <+: xs → Handed1 W0 W1 A c x → CallsIn F m Try.prog 61 #[.slice A x.length c, .pointer (some ⟨B5, 0, none⟩), .pointer (some ⟨B3, 0, none⟩), .pointer (some ⟨B2, 0, none⟩), .pointer (some ⟨B4, 0, none⟩)] W1 fun e W' => (e = .returned (.bool true) ∧ J (pre ++ [x]) W' ∧ KpF fp W1 W') ∨ (e = .returned (.bool false) ∧ Jx (pre ++ [x]) W')) (k : Nat) :
    ∀ (T : BT) (hsz : SizeOf.sizeOf T < k) (n : Nat) (b : Nat) (pre : List Tp) (W : World), NodeF fp W b T → T.Ok → Up o T.io → (∀ x y, x ∈ T.io → y ∈ T.io → Lt o x y → p y = true → p x = true) → (∀ a ∈ T.io, Q a) → T.io.length ≤ 1024 → KpF fp Ws W → J pre W → pre ++ sel p T.io <+: xs →
      CallsIn F n Try.prog 53 #[.pointer (some ⟨b, 0, none⟩), .func (.func 60) #[] #[.pointer (some ⟨B5, 0, none⟩), .pointer (some ⟨B3, 0, none⟩), .pointer (some ⟨B2, 0, none⟩)], .func (.func 61) #[] #[.pointer (some ⟨B5, 0, none⟩), .pointer (some ⟨B3, 0, none⟩), .pointer (some ⟨B2, 0, none⟩), .pointer (some ⟨B4, 0, none⟩)]] W (WalkR fp J Jx W pre (sel p T.io)) := by
  induction k with
  | zero => intro T hsz; omega
  | succ k ih =>
    intro T hsz n b pre W hNd hOk hUp hp hlen hle hKs hJ0 hpre
    have hdd : ∀ k : Nat, (F.depth.isSome = true → 1 ≤ k) := fun k h => by rw [hd] at h; cases h
    cases hNd with
    | mk b A0 c0 A1 c1 ts kids ps hokb h0 h1 hc0 hc1 hl hT hN hk =>
      obtain ⟨m, hmm⟩ : ∃ m, m = ts.length := ⟨_, rfl⟩
      obtain ⟨q, hqq⟩ : ∃ q, q = ps.length := ⟨_, rfl⟩
      have hm : m ≤ 1024 := by
        have := weave_len (kids.map BT.io) ts (io_ts hOk)
        rw [← BT.io_mk] at this
        omega
      rw [← hmm] at h0 hc0
      rw [← hqq] at h1 hc1
      have hw1 : IntKind.i64.wrap ((m : Int) + 1) = (m : Int) + 1 := by rw [IntKind.wrap_i64]; omega
      have HKL := Aside0.mk (kidl_len hOk)
      have HKS := Aside0.mk hKs
      clear hKs
      have HT := Aside0.mk hT
      have HN := Aside0.mk hN
      have HK := Aside0.mk hk
      have H0 := Aside0.mk h0
      have H1 := Aside0.mk h1
      have HP := Aside0.mk hp
      have HUP := Aside0.mk hUp
      have HOK := Aside0.mk hOk
      have HLE := Aside0.mk hlen
      have HPRE := Aside0.mk hpre
      have HMM := Aside0.mk hmm
      have HQQ := Aside0.mk hqq
      have HLL := Aside0.mk hl
      have HSZ := Aside0.mk hsz
      have HLN := Aside0.mk hle
      have HOKB := Aside0.mk hokb
      have HB := Aside0.mk (fun x y h a b => hJ x y h a b)
      clear hT hN hk hp hUp hlen hpre hmm hqq hl hsz hle hOk hokb
      refine callsIn_of_wp Try.func53 rfl (hF _) ?_ hro
      simp only [Try.ntmps53, List.size_toArray, List.length_cons, List.length_nil, Nat.reduceAdd, Nat.reduceSub, Array.replicate_succ, Array.replicate_zero, List.push_toArray, List.append_toArray, List.nil_append, List.cons_append]
      gi_wp2
      gi_loopw [14] (fun v14 wr => ∃ i : Nat, i ≤ m + 1 ∧ v14 = .int .i64 i ∧ Aside0 (J (pre ++ sel p (front (kidl ts kids) ts i)) wr) ∧ Aside0 (KpF fp W wr))
        (fun v14 _ => m + 1 - (intOf v14).toNat)
      case atStart => exact ⟨0, Nat.zero_le _, rfl, ⟨by rw [front_zero]; simpa [sel] using hJ0⟩, ⟨KpF.refl _ _⟩⟩
      case round =>
        obtain ⟨i, hi, rfl, HJ, HKP⟩ := hrel
        by_cases hE : i = m + 1
        · subst hE
          have HF := Aside0.mk (show sel p (front (kidl ts kids) ts (m + 1)) = sel p (BT.mk ts kids).io by rw [HMM.out, front_all _ _ HKL.out, kidl_io])
          gi_wp2
          go_ret
          exact .inl ⟨rfl, by rw [← HF.out]; exact HJ.out, HKP.out⟩
        · have hi2 : i ≤ m := by omega
          have hi3 : (i : Int) < (m : Int) + 1 := by omega
          have hi4 : (0 : Int) ≤ (i : Int) := by omega
          have hwi : IntKind.i64.wrap ((i : Int) + 1) = (i : Int) + 1 := by rw [IntKind.wrap_i64]; omega
          have h0r : wr.cell? ⟨b, 0, none⟩ = some (.slice A0 m c0) := HKP.out.cell HOKB.out H0.out
          have h1r : wr.cell? ⟨b, 1, none⟩ = some (.slice A1 q c1) := HKP.out.cell HOKB.out H1.out
          clear h0 h1 hi hE
          by_cases hin : i < m
          · have hin2 : (i : Int) < (m : Int) := by omega
            have hsi : i < ts.length := by have := HMM.out; omega
            obtain ⟨ad, Ai, ci, rfl, hcell, sl⟩ := tup_at (Kd.F_now (Kd.F_step HT.out HKP.out.same)) i hsi
            obtain ⟨x, hx⟩ : ∃ x, x = ts[i] := ⟨_, rfl⟩
            rw [← hx] at hcell sl
            have HX := Aside0.mk (show ts[i]?.getD [] = x by rw [hx]; simp [hsi])
            have HFS := Aside0.mk (front_succ (kidl ts kids) ts i HKL.out hsi)
            have HXM := Aside0.mk (show x ∈ (BT.mk ts kids).io from by rw [hx, BT.io_mk]; exact weave_mem_ts _ _ (io_ts HOK.out) _ (List.getElem_mem _))
            clear hx
            by_cases hpx : p x = true
            · have hblx := hbl (n - 1) wr Ai ci x (HKS.out.trans HKP.out) (HLE.out x HXM.out) sl
              rw [hpx] at hblx
              have HN1 := Aside0.mk (below_all HOK.out HUP.out HP.out i hsi (by rw [HX.out]; exact hpx))
              have HN0 := Aside0.mk (show sel p (front (kidl ts kids) ts i) = [] from by
                have h := HN1.out
                rw [HFS.out, sel_append] at h
                exact (List.append_eq_nil_iff.1 h).1)
              gi_wp2_with (first
                | ((try refine ⟨hdd _, ?_⟩); gi_at_call 60; refine hblx.mono ?_; clear hblx; rintro e w1 ⟨rfl, hb1⟩))
              go_roundw
              case rel => exact ⟨i + 1, by omega, by simp, ⟨by rw [HN1.out, ← HN0.out]; exact HB.out _ _ _ HJ.out hb1⟩, ⟨HKP.out.trans (KpF.below hb1)⟩⟩
              case measure => simp [intOf]; omega
            · have hpx2 : p x = false := by simpa using hpx
              have hblx := hbl (n - 1) wr Ai ci x (HKS.out.trans HKP.out) (HLE.out x HXM.out) sl
              rw [hpx2] at hblx
              have hxl : x.length ≤ 1000000 := by have := hQ x (HLE.out x HXM.out); omega
              have HXL := Aside0.mk hxl
              clear hxl
              have HNX := Aside0.mk (show pre ++ sel p (front (kidl ts kids) ts (i + 1)) <+: xs from
                (List.prefix_append_right_inj pre |>.2 (sel_prefix p (by rw [← kidl_io]; exact front_pre _ _ _ HKL.out (by omega)))).trans HPRE.out)
              have HSX := Aside0.mk (sel_yes p x hpx2)
              rcases Nat.eq_zero_or_pos q with hq | hq
              · subst hq
                have hkd : kids = [] := List.length_eq_zero_iff.1 (by have := HLL.out; have := HQQ.out; omega)
                have HFF := Aside0.mk (show sel p (front (kidl ts kids) ts (i + 1)) = sel p (front (kidl ts kids) ts i) ++ [x] from by
                  rw [HFS.out, HX.out, sel_append, hkd, kidl_leaf, List.nil_append, HSX.out])
                clear hkd
                gi_wp2_with (first
                  | ((try refine ⟨hdd _, ?_⟩); gi_at_call 60; refine hblx.mono ?_; clear hblx; rintro e w1 ⟨rfl, hb1⟩; have h0a := pw_cell_below hb1 h0r; have h1a := pw_cell_below hb1 h1r; have hca := pw_cell_below hb1 hcell; have hsl1 := sl.below hb1; have hJ1 := HB.out _ _ _ HJ.out hb1; have HB1 := Aside0.mk hb1; clear hb1)
                  | ((try refine ⟨hdd _, ?_⟩); gi_at_call 47; refine (hcl _ w1 Ai ci x hsl1 HXL.out).mono ?_; rintro e w2 ⟨A2, c2, rfl, hh⟩; have hRo := hR (n - 1) _ x A2 c2 w1 w2 (((HKS.out.trans HKP.out).trans (KpF.below HB1.out)).trans (KpF.below hh.1)) hJ1 (by rw [List.append_assoc, ← HFF.out]; exact HNX.out) hh; have HH := Aside0.mk hh; clear hh)
                  | ((try refine ⟨hdd _, ?_⟩); gi_at_call 61; refine hRo.mono ?_; clear hRo; rintro e w3 (⟨rfl, hJ3, hk3⟩ | ⟨rfl, hx3⟩)))
                · refine ⟨⟨i + 1, by omega, by simp, ⟨by rw [HFF.out, ← List.append_assoc]; exact hJ3⟩, ⟨((HKP.out.trans (KpF.below HB1.out)).trans (KpF.below HH.out.1)).trans hk3⟩⟩, by simp [intOf]; omega⟩
                · go_ret
                  exact .inr ⟨rfl, sel p (front (kidl ts kids) ts (i + 1)), sel_prefix p (by rw [← kidl_io]; exact front_pre _ _ _ HKL.out (by omega)), by rw [HFF.out, ← List.append_assoc]; exact hx3⟩
              · have hip : i < ps.length := by
                  have h1 := HLL.out
                  have h2 := HQQ.out
                  have h3 := HMM.out
                  rcases ((BT.ok_mk ts kids).1 HOK.out).1 with e | e
                  · rw [e] at h1; simp only [List.length_nil] at h1; omega
                  · omega
                have hik : i < kids.length := by have := HLL.out; omega
                have hiq : (i : Int) < (q : Int) := by have := HQQ.out; omega
                have hqp : (q : Int) > 0 := by omega
                obtain ⟨ad1, rfl, hcel1⟩ := nod_at (Kd.F_now (Kd.F_step HN.out HKP.out.same)) i hip
                have HCH := Aside0.mk (walk_child hik hip HOK.out HUP.out HP.out HLE.out HLN.out HSZ.out HK.out HKS.out ih)
                obtain ⟨pb, hpb⟩ : ∃ pb, pb = ps[i] := ⟨_, rfl⟩
                obtain ⟨K0, hK0⟩ : ∃ K0, K0 = kids[i] := ⟨_, rfl⟩
                rw [← hpb] at hcel1 HCH
                rw [← hK0] at HCH
                have HFF := Aside0.mk (show sel p (front (kidl ts kids) ts (i + 1)) = sel p (front (kidl ts kids) ts i) ++ (sel p K0.io ++ [x]) from by
                  rw [HFS.out, HX.out, sel_append, kidl_kid i hik, ← hK0, sel_append, HSX.out])
                have HTX := Aside0.mk (show ∀ w', KpF fp W w' → ∃ Ai ci, w'.cell? (ad.add i) = some (.slice Ai x.length ci) ∧ Sl w' Ai ci x from fun w' hk => by
                  obtain ⟨ad', Ai', ci', e, hc', sl'⟩ := tup_at (Kd.F_now (Kd.F_step HT.out hk.same)) i hsi
                  have e' := Option.some.inj e
                  subst e'
                  have hxe : ts[i] = x := by have := HX.out; simpa [hsi] using this
                  rw [hxe] at hc' sl'
                  exact ⟨Ai', ci', hc', sl'⟩)
                clear hpb hK0 hip hik
                gi_wp2_with (first
                  | ((try refine ⟨hdd _, ?_⟩); gi_at_call 60; refine hblx.mono ?_; clear hblx; rintro e w1 ⟨rfl, hb1⟩; have h0a := pw_cell_below hb1 h0r; have h1a := pw_cell_below hb1 h1r; have hce1 := pw_cell_below hb1 hcel1; have hJ1 := HB.out _ _ _ HJ.out hb1; have HK1 := Aside0.mk (HKP.out.trans (KpF.below hb1)); clear hb1; have hch := walk_beside HCH.out HK1.out hJ1 (by rw [List.append_assoc]; exact (List.prefix_append_right_inj pre |>.2 (by rw [HFF.out, ← List.append_assoc]; exact List.prefix_append _ _)).trans HNX.out) HOKB.out H0.out HTX.out (n - 1))
                  | ((try refine ⟨hdd _, ?_⟩); gi_at_call 53; refine hch.mono ?_; clear hch; rintro e w2 (⟨rfl, hJ2, hk2, h0b, Ai2, ci2, hca2, hsl2⟩ | ⟨rfl, q', hq', hx2⟩))
                  | ((try refine ⟨hdd _, ?_⟩); gi_at_call 47; refine (hcl _ w2 Ai2 ci2 x hsl2 HXL.out).mono ?_; rintro e w4 ⟨A4, c4, rfl, hh⟩; have hRo := hR (n - 1) _ x A4 c4 w2 w4 ((HKS.out.trans hk2).trans (KpF.below hh.1)) hJ2 (by have h := HNX.out; rw [HFF.out] at h; simpa [List.append_assoc] using h) hh; have HH := Aside0.mk hh; clear hh)
                  | ((try refine ⟨hdd _, ?_⟩); gi_at_call 61; refine hRo.mono ?_; clear hRo; rintro e w3 (⟨rfl, hJ3, hk3⟩ | ⟨rfl, hx3⟩)))
                · refine ⟨⟨i + 1, by omega, by simp, ⟨by have h := hJ3; rw [HFF.out]; simpa [List.append_assoc] using h⟩, ⟨(hk2.trans (KpF.below HH.out.1)).trans hk3⟩⟩, by simp [intOf]; omega⟩
                · go_ret
                  exact .inr ⟨rfl, sel p (front (kidl ts kids) ts (i + 1)), sel_prefix p (by rw [← kidl_io]; exact front_pre _ _ _ HKL.out (by omega)), by have h := hx3; rw [HFF.out]; simpa [List.append_assoc] using h⟩
                · go_ret
                  refine .inr ⟨rfl, sel p (front (kidl ts kids) ts i) ++ q', ?_, by rw [← List.append_assoc]; exact hx2⟩
                  refine List.IsPrefix.trans ?_ (sel_prefix p (show front (kidl ts kids) ts (i + 1) <+: (BT.mk ts kids).io by rw [← kidl_io]; exact front_pre _ _ _ HKL.out (by omega)))
                  rw [HFF.out]
                  exact List.prefix_append_right_inj _ |>.2 (hq'.trans (List.prefix_append _ _))
          · obtain rfl : i = m := by omega
            have HFL := Aside0.mk (show front (kidl ts kids) ts (i + 1) = front (kidl ts kids) ts i ++ ((kidl ts kids)[i]?.getD []) by have := front_last (kidl ts kids) ts HKL.out; rw [← HMM.out] at this; exact this)
            have HFA := Aside0.mk (show sel p (front (kidl ts kids) ts (i + 1)) = sel p (BT.mk ts kids).io by rw [HMM.out, front_all _ _ HKL.out, kidl_io])
            rcases Nat.eq_zero_or_pos q with hq | hq
            · subst hq
              have hkd : kids = [] := List.length_eq_zero_iff.1 (by have := HLL.out; have := HQQ.out; omega)
              have HFF := Aside0.mk (show sel p (front (kidl ts kids) ts (i + 1)) = sel p (front (kidl ts kids) ts i) from by
                rw [HFL.out, hkd, kidl_leaf, List.append_nil])
              clear hkd
              gi_wp2
              refine ⟨⟨i + 1, by omega, by simp, ⟨by rw [HFF.out]; exact HJ.out⟩, HKP⟩, by simp [intOf]⟩
            · have hip : i < ps.length := by
                have h1 := HLL.out
                have h2 := HQQ.out
                have h3 := HMM.out
                rcases ((BT.ok_mk ts kids).1 HOK.out).1 with e | e
                · rw [e] at h1; simp only [List.length_nil] at h1; omega
                · omega
              have hik : i < kids.length := by have := HLL.out; omega
              have hiq : (i : Int) < (q : Int) := by have := HQQ.out; omega
              have hqp : (q : Int) > 0 := by omega
              obtain ⟨ad1, rfl, hcel1⟩ := nod_at (Kd.F_now (Kd.F_step HN.out HKP.out.same)) i hip
              have HCH := Aside0.mk (walk_child hik hip HOK.out HUP.out HP.out HLE.out HLN.out HSZ.out HK.out HKS.out ih)
              obtain ⟨pb, hpb⟩ : ∃ pb, pb = ps[i] := ⟨_, rfl⟩
              obtain ⟨K0, hK0⟩ : ∃ K0, K0 = kids[i] := ⟨_, rfl⟩
              rw [← hpb] at hcel1 HCH
              rw [← hK0] at HCH
              have HFF := Aside0.mk (show sel p (front (kidl ts kids) ts (i + 1)) = sel p (front (kidl ts kids) ts i) ++ sel p K0.io from by
                rw [HFL.out, sel_append, kidl_kid i hik, ← hK0])
              have hch := walk_beside0 HCH.out HKP.out HJ.out (by have h := HPRE.out; rw [← HFA.out, HFF.out] at h; simpa [List.append_assoc] using h) HOKB.out H0.out (n - 1)
              clear hpb hK0 hip hik
              gi_wp2_with (first
                | ((try refine ⟨hdd _, ?_⟩); gi_at_call 53; refine hch.mono ?_; clear hch; rintro e w2 (⟨rfl, hJ2, hk2, h0b⟩ | ⟨rfl, q', hq', hx2⟩)))
              · refine ⟨⟨i + 1, by omega, by simp, ⟨by rw [HFF.out, ← List.append_assoc]; exact hJ2⟩, ⟨hk2⟩⟩, by simp [intOf]⟩
              · go_ret
                refine .inr ⟨rfl, sel p (front (kidl ts kids) ts i) ++ q', ?_, by rw [← List.append_assoc]; exact hx2⟩
                rw [← HFA.out, HFF.out]
                exact List.prefix_append_right_inj _ |>.2 hq'

end Go.Proofs.Ytcmllllbmgcnlaa.Tup
