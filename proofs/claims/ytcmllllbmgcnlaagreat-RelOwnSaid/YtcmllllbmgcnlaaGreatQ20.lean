/- Own texts, joined and cut to what the claim stands on: BtBelow, BtWalkR, BtLoop, BtList. -/
import Derived.Maps.AppendAt
import Derived.Test.YtcmllllbmgcnlaaGreatQ19
section
namespace Go.Proofs.YtcmllllbmgcnlaaGreat.Tup
open Go.RowKit Go.Lib Go.Shelf Go.Proofs.YtcmllllbmgcnlaaGreat.G Go.Proofs.YtcmllllbmgcnlaaGreatW.PrintWords Go.Proofs.YtcmllllbmgcnlaaGreatW.PrintLast Go.Proofs.YtcmllllbmgcnlaaGreatW.PrintMore
set_option linter.unusedVariables false
set_option linter.unusedSimpArgs false
theorem sl_at {W : World} {A : Option Addr} {c : Nat} {l : List Int} (h : Sl W A c l) (i : Int) (h0 : 0 ≤ i) (h1 : i < (l.length : Int)) :
    ∃ ad, A = some ad ∧ W.cell? (ad.add i.toNat) = some (.int .i64 (rd l i)) := by
  obtain ⟨ad, cs, e, hl, hK, hc⟩ := Kd.C_get h.C (0 : Int) i h0 h1
  have hK' : cs = [Value.int .i64 (l.getD i.toNat 0)] := hK
  refine ⟨ad, e, ?_⟩
  have := hc 0 _ (by rw [hK']; rfl)
  simpa [Kd.int, Kd.scalar, rd] using this
def pR (o : Tp) (k : Int) (key x : Tp) : Bool := decide (cmpL (o.take k.toNat) x key < 0)
set_option maxHeartbeats 2000000 in
set_option maxRecDepth 100000 in
theorem belowR_calls (W : World) (B5 B3 B2 : Nat) (Ao : Option Addr) (co : Nat) (o : Tp) (k : Int) (Ak : Option Addr) (ck : Nat) (key : Tp) (c5 : W.cell? ⟨B5, 0, none⟩ = some (.slice Ao o.length co)) (c3 : W.cell? ⟨B3, 0, none⟩ = some (.int .i64 k)) (c2 : W.cell? ⟨B2, 0, none⟩ = some (.slice Ak key.length ck)) (so : Sl W Ao co o) (sk : Sl W Ak ck key) (rto : Rt o) (hk : key.length = o.length) (A : Option Addr) (c : Nat) (x : Tp) (sx : Sl W A c x) (hx : x.length = o.length) :
    Calls Tryz.prog 75 #[.slice A x.length c, .pointer (some ⟨B5, 0, none⟩), .pointer (some ⟨B3, 0, none⟩), .pointer (some ⟨B2, 0, none⟩)] W fun e w' => e = .returned (.bool (pR o k key x)) ∧ Below W.heap.size W w' := by
  obtain ⟨n, hn⟩ : ∃ n, n = o.length := ⟨_, rfl⟩
  obtain ⟨K, hK⟩ : ∃ K, K = min k.toNat n := ⟨_, rfl⟩
  have hmm : max (min k (n : Int)) 0 = (K : Int) := by omega
  have hKn : K ≤ n := by omega
  have hKc : K ≤ co := by have := so.le; omega
  have e1 : o.take k.toNat = o.take K := by
    by_cases h : k.toNat ≤ n
    · rw [hK, Nat.min_eq_left h]
    · rw [hK, Nat.min_eq_right (by omega), List.take_of_length_le (by omega), List.take_of_length_le (by omega)]
  have HP : Aside0 (pR o k key x = decide (cmpL (o.take K) x key < 0)) := ⟨by rw [pR, e1]⟩
  have HSO := Aside0.mk so
  have HSK := Aside0.mk sk
  have HSX := Aside0.mk sx
  have HRT := Aside0.mk rto
  have HN := Aside0.mk hn
  have hn8 : n ≤ 8 := by have := rto.1; omega
  have HL : Aside0 (key.length = n ∧ x.length = n) := ⟨by omega, by omega⟩
  rw [hk] at c2
  rw [hx]
  rw [← hn] at c5 c2 ⊢
  clear so sk sx rto hn hk hx e1 hK
  rcases Int.lt_or_le k 0 with hk | hk
  · obtain rfl : K = 0 := by omega
    have HX := Aside0.mk (show decide (cmpL (o.take 0) x key < 0) = false from rfl)
    go_enter Tryz.func75, Tryz.ntmps75
    go_wp2
    go_loopg [16] 0 (fun gk v16 w' => v16 = .int .i64 0 ∧ Aside0 (Since W w'))
    case atStart => exact ⟨rfl, ⟨Since.refl W⟩⟩
    case round =>
      obtain ⟨rfl, HS⟩ := hrel
      go_wp2
      go_ret
      exact ⟨by rw [HP.out, HX.out]; rfl, HS.out.b⟩
  · rcases Nat.lt_or_ge n k.toNat with hk2 | hk2
    · have hkn : ¬ k < (n : Int) := by omega
      obtain rfl : n = K := by omega
      go_enter Tryz.func75, Tryz.ntmps75
      go_wp2
      go_loopg [16] (n) (fun gk v16 w' => ∃ j : Nat, v16 = .int .i64 (j : Int) ∧ Aside0 (j + gk = n) ∧ Aside0 (cmpL (o.take (n)) x key = cmpL ((o.take (n)).drop j) x key) ∧ Aside0 (Since W w'))
      case atStart => exact ⟨0, rfl, ⟨by omega⟩, ⟨by rw [List.drop_zero]⟩, ⟨Since.refl W⟩⟩
      case round =>
        obtain ⟨j, rfl, HJ, HE, HS⟩ := hrel
        by_cases hj : j < n
        · have hjo : j < o.length := by have := HN.out; omega
          obtain ⟨ad0, rfl, hc0⟩ := sl_at (HS.out.sl HSO.out) (j : Int) (by omega) (by omega)
          have hr0 := HRT.out.2.1 (o[j]) (List.getElem_mem _)
          have hro : rd o (j : Int) = o[j] := by simp [rd, hjo]
          obtain ⟨q, hq⟩ : ∃ q, q = rd o (j : Int) := ⟨_, rfl⟩
          rw [← hq] at hc0 hro
          rw [← hro] at hr0
          have hq0 : 0 ≤ q := hr0.1
          have hqn : q < (n : Int) := by have := HN.out; omega
          obtain ⟨adx, rfl, hcx⟩ := sl_at (HS.out.sl HSX.out) q hq0 (by have := HL.out; omega)
          obtain ⟨adk, rfl, hck⟩ := sl_at (HS.out.sl HSK.out) q hq0 (by have := HL.out; omega)
          have hd : (o.take (n)).drop j = q :: (o.take (n)).drop (j + 1) := by
            rw [List.drop_eq_getElem_cons (by simp; omega), List.getElem_take, ← hro]
          have HEE := Aside0.mk (HE.out.trans (by rw [hd]; rfl : _ = (if rd x q < rd key q then -1 else if rd x q > rd key q then 1 else cmpL ((o.take (n)).drop (j + 1)) x key)))
          have h5 := pw_cell_below HS.out.b c5
          have h2 := pw_cell_below HS.out.b c2
          have hjt : ((j : Int)).toNat = j := by omega
          rw [hjt] at hc0
          have hj1 : (j : Int) < ((n : Nat) : Int) := by omega
          clear hr0 hro hq hd hjo
          obtain ⟨a, ha⟩ : ∃ a, a = rd x q := ⟨_, rfl⟩
          obtain ⟨b, hb⟩ : ∃ b, b = rd key q := ⟨_, rfl⟩
          rw [← ha, ← hb] at HEE
          rw [← ha] at hcx
          rw [← hb] at hck
          clear ha hb
          by_cases hab : a = b
          · subst hab
            have HX := Aside0.mk (HEE.out.trans (by simp : _ = cmpL ((o.take (n)).drop (j + 1)) x key))
            go_wp2
            go_quiet (fail)
            go_wp2
            obtain ⟨g2, hg2⟩ : ∃ g2, g2 = gk - 1 := ⟨_, rfl⟩
            go_roundg g2
            case measure => have := HJ.out; omega
            case rel => exact ⟨j + 1, by go_num, ⟨by have := HJ.out; omega⟩, HX, ⟨HS.out.drewN _⟩⟩
          · have hab2 : (a == b) = false := beq_eq_false_iff_ne.2 hab
            have HX := Aside0.mk (show decide (cmpL (o.take (n)) x key < 0) = decide (a < b) from by
              rw [HEE.out]
              by_cases h : a < b
              · simp [h]
              · rw [if_neg h, if_pos (by omega)]; simp; omega)
            clear HEE
            go_wp2
            go_quiet (fail)
            go_wp2
            go_quiet (fail)
            go_wp2
            go_ret
            exact ⟨by rw [HP.out, HX.out]; rfl, (((HS.out.drewN _).drewN _).b)⟩
        · obtain rfl : j = n := by have := HJ.out; omega
          have HX := Aside0.mk (show decide (cmpL (o.take (j)) x key < 0) = false from by
            rw [HE.out, List.drop_of_length_le (by simp; omega)]; rfl)
          go_wp2
          go_ret
          exact ⟨by rw [HP.out, HX.out]; rfl, HS.out.b⟩
    · obtain rfl : k = (K : Int) := by omega
      have hKN : (K : Int) ≤ (n : Int) := by omega
      go_enter Tryz.func75, Tryz.ntmps75
      go_wp2
      go_loopg [16] (K) (fun gk v16 w' => ∃ j : Nat, v16 = .int .i64 (j : Int) ∧ Aside0 (j + gk = K) ∧ Aside0 (cmpL (o.take (K)) x key = cmpL ((o.take (K)).drop j) x key) ∧ Aside0 (Since W w'))
      case atStart => exact ⟨0, rfl, ⟨by omega⟩, ⟨by rw [List.drop_zero]⟩, ⟨Since.refl W⟩⟩
      case round =>
        obtain ⟨j, rfl, HJ, HE, HS⟩ := hrel
        by_cases hj : j < K
        · have hjo : j < o.length := by have := HN.out; omega
          obtain ⟨ad0, rfl, hc0⟩ := sl_at (HS.out.sl HSO.out) (j : Int) (by omega) (by omega)
          have hr0 := HRT.out.2.1 (o[j]) (List.getElem_mem _)
          have hro : rd o (j : Int) = o[j] := by simp [rd, hjo]
          obtain ⟨q, hq⟩ : ∃ q, q = rd o (j : Int) := ⟨_, rfl⟩
          rw [← hq] at hc0 hro
          rw [← hro] at hr0
          have hq0 : 0 ≤ q := hr0.1
          have hqn : q < (n : Int) := by have := HN.out; omega
          obtain ⟨adx, rfl, hcx⟩ := sl_at (HS.out.sl HSX.out) q hq0 (by have := HL.out; omega)
          obtain ⟨adk, rfl, hck⟩ := sl_at (HS.out.sl HSK.out) q hq0 (by have := HL.out; omega)
          have hd : (o.take (K)).drop j = q :: (o.take (K)).drop (j + 1) := by
            rw [List.drop_eq_getElem_cons (by simp; omega), List.getElem_take, ← hro]
          have HEE := Aside0.mk (HE.out.trans (by rw [hd]; rfl : _ = (if rd x q < rd key q then -1 else if rd x q > rd key q then 1 else cmpL ((o.take (K)).drop (j + 1)) x key)))
          have h5 := pw_cell_below HS.out.b c5
          have h2 := pw_cell_below HS.out.b c2
          have hjt : ((j : Int)).toNat = j := by omega
          rw [hjt] at hc0
          have hj1 : (j : Int) < ((K : Nat) : Int) := by omega
          clear hr0 hro hq hd hjo
          obtain ⟨a, ha⟩ : ∃ a, a = rd x q := ⟨_, rfl⟩
          obtain ⟨b, hb⟩ : ∃ b, b = rd key q := ⟨_, rfl⟩
          rw [← ha, ← hb] at HEE
          rw [← ha] at hcx
          rw [← hb] at hck
          clear ha hb
          by_cases hab : a = b
          · subst hab
            have HX := Aside0.mk (HEE.out.trans (by simp : _ = cmpL ((o.take (K)).drop (j + 1)) x key))
            go_wp2
            go_quiet (fail)
            go_wp2
            obtain ⟨g2, hg2⟩ : ∃ g2, g2 = gk - 1 := ⟨_, rfl⟩
            go_roundg g2
            case measure => have := HJ.out; omega
            case rel => exact ⟨j + 1, by go_num, ⟨by have := HJ.out; omega⟩, HX, ⟨HS.out.drewN _⟩⟩
          · have hab2 : (a == b) = false := beq_eq_false_iff_ne.2 hab
            have HX := Aside0.mk (show decide (cmpL (o.take (K)) x key < 0) = decide (a < b) from by
              rw [HEE.out]
              by_cases h : a < b
              · simp [h]
              · rw [if_neg h, if_pos (by omega)]; simp; omega)
            clear HEE
            go_wp2
            go_quiet (fail)
            go_wp2
            go_quiet (fail)
            go_wp2
            go_ret
            exact ⟨by rw [HP.out, HX.out]; rfl, (((HS.out.drewN _).drewN _).b)⟩
        · obtain rfl : j = K := by have := HJ.out; omega
          have HX := Aside0.mk (show decide (cmpL (o.take (j)) x key < 0) = false from by
            rw [HE.out, List.drop_of_length_le (by simp; omega)]; rfl)
          go_wp2
          go_ret
          exact ⟨by rw [HP.out, HX.out]; rfl, HS.out.b⟩
end Go.Proofs.YtcmllllbmgcnlaaGreat.Tup
end
section
namespace Go.Proofs.YtcmllllbmgcnlaaGreat.Tup
open Go.RowKit Go.Lib Go.Shelf Go.Proofs.YtcmllllbmgcnlaaGreat.G Go.Proofs.YtcmllllbmgcnlaaGreatW.PrintWords Go.Proofs.YtcmllllbmgcnlaaGreatW.PrintLast Go.Proofs.YtcmllllbmgcnlaaGreatW.PrintMore
set_option linter.unusedVariables false
set_option linter.unusedSimpArgs false
attribute [local go_sem] Oper.semAt_some
set_option maxRecDepth 100000 in
set_option maxHeartbeats 4000000 in
theorem walkR_in (B5 B3 B2 B4 : Nat) (F : Fence) (hd : F.depth = none) (hF : ∀ f, F.fn f) (hro : F.round = none) (l : Nat) (fp : Nat → Prop) (J Jx : List Tp → World → Prop) (xs : List Tp) (o : Tp) (p : Tp → Bool) (Ws : World) (Q : Tp → Prop) (hQ : ∀ a, Q a → a.length ≤ 1000)
    (hcl : ∀ n W A c t, Sl W A c t → t.length ≤ 1000000 → CallsIn F n Tryz.prog 44 #[.slice A t.length c] W fun e w' => ∃ A' c', e = .returned (.slice A' t.length c') ∧ Handed1 W w' A' c' t)
    (hbl : ∀ n W A c t, KpF fp Ws W → Q t → Sl W A c t → CallsIn F n Tryz.prog 75 #[.slice A t.length c, .pointer (some ⟨B5, 0, none⟩), .pointer (some ⟨B3, 0, none⟩), .pointer (some ⟨B2, 0, none⟩)] W fun e w' => e = .returned (.bool (p t)) ∧ Below W.heap.size W w')
    (hJ : ∀ s W W', J s W → Below W.heap.size W W' → J s W') (hR : ∀ m pre x A c W0 W1, KpF fp Ws W1 → J pre W0 → pre ++ [x] <+: xs → Handed1 W0 W1 A c x → CallsIn F m Tryz.prog 77 #[.slice A x.length c, .pointer (some ⟨B5, 0, none⟩), .pointer (some ⟨B3, 0, none⟩), .pointer (some ⟨B2, 0, none⟩), .pointer (some ⟨B4, 0, none⟩)] W1 fun e W' => (e = .returned (.bool true) ∧ J (pre ++ [x]) W' ∧ KpF fp W1 W') ∨ (e = .returned (.bool false) ∧ Jx (pre ++ [x]) W')) (k : Nat) :
    ∀ (T : BT) (hsz : SizeOf.sizeOf T < k) (n : Nat) (b : Nat) (pre : List Tp) (W : World), NodeF fp W b T → T.Ok → Up o T.io → (∀ x y, x ∈ T.io → y ∈ T.io → Lt o x y → p y = true → p x = true) → (∀ a ∈ T.io, Q a) → T.io.length ≤ 1024 → KpF fp Ws W → J pre W → pre ++ sel p T.io <+: xs →
      CallsIn F n Tryz.prog 76 #[.pointer (some ⟨b, 0, none⟩), .func (.func 75) #[] #[.pointer (some ⟨B5, 0, none⟩), .pointer (some ⟨B3, 0, none⟩), .pointer (some ⟨B2, 0, none⟩)], .func (.func 77) #[] #[.pointer (some ⟨B5, 0, none⟩), .pointer (some ⟨B3, 0, none⟩), .pointer (some ⟨B2, 0, none⟩), .pointer (some ⟨B4, 0, none⟩)]] W (WalkR fp J Jx W pre (sel p T.io)) := by
  induction k with
  | zero => intro T hsz; omega
  | succ k ih =>
    intro T hsz n b pre W hNd hOk hUp hp hlen hle hKs hJ0 hpre
    have hdd : ∀ k : Nat, (F.depth.isSome = true → 1 ≤ k) := fun k h => by rw [hd] at h; cases h
    cases hNd with
    | mk b A0 c0 A1 c1 ts kids ps hokb h0 h1 hc0 hc1 hl hT hN hk =>
      obtain ⟨m, hmm⟩ : ∃ m, m = ts.length := ⟨_, rfl⟩
      obtain ⟨q, hqq⟩ : ∃ q, q = ps.length := ⟨_, rfl⟩
      have hm : m ≤ 1024 := by
        have := weave_len (kids.map BT.io) ts (io_ts hOk)
        rw [← BT.io_mk] at this
        omega
      rw [← hmm] at h0 hc0
      rw [← hqq] at h1 hc1
      have hw1 : IntKind.i64.wrap ((m : Int) + 1) = (m : Int) + 1 := by rw [IntKind.wrap_i64]; omega
      have HKL := Aside0.mk (kidl_len hOk)
      have HKS := Aside0.mk hKs
      clear hKs
      have HT := Aside0.mk hT
      have HN := Aside0.mk hN
      have HK := Aside0.mk hk
      have H0 := Aside0.mk h0
      have H1 := Aside0.mk h1
      have HP := Aside0.mk hp
      have HUP := Aside0.mk hUp
      have HOK := Aside0.mk hOk
      have HLE := Aside0.mk hlen
      have HPRE := Aside0.mk hpre
      have HMM := Aside0.mk hmm
      have HQQ := Aside0.mk hqq
      have HLL := Aside0.mk hl
      have HSZ := Aside0.mk hsz
      have HLN := Aside0.mk hle
      have HOKB := Aside0.mk hokb
      have HB := Aside0.mk (fun x y h a b => hJ x y h a b)
      clear hT hN hk hp hUp hlen hpre hmm hqq hl hsz hle hOk hokb
      refine callsIn_of_wp Tryz.func76 rfl (hF _) ?_ hro
      simp only [Tryz.ntmps76, List.size_toArray, List.length_cons, List.length_nil, Nat.reduceAdd, Nat.reduceSub, Array.replicate_succ, Array.replicate_zero, List.push_toArray, List.append_toArray, List.nil_append, List.cons_append]
      gi_wp2
      gi_loopw [14] (fun v14 wr => ∃ i : Nat, i ≤ m + 1 ∧ v14 = .int .i64 i ∧ Aside0 (J (pre ++ sel p (front (kidl ts kids) ts i)) wr) ∧ Aside0 (KpF fp W wr))
        (fun v14 _ => m + 1 - (intOf v14).toNat)
      case atStart => exact ⟨0, Nat.zero_le _, rfl, ⟨by rw [front_zero]; simpa [sel] using hJ0⟩, ⟨KpF.refl _ _⟩⟩
      case round =>
        obtain ⟨i, hi, rfl, HJ, HKP⟩ := hrel
        by_cases hE : i = m + 1
        · subst hE
          have HF := Aside0.mk (show sel p (front (kidl ts kids) ts (m + 1)) = sel p (BT.mk ts kids).io by rw [HMM.out, front_all _ _ HKL.out, kidl_io])
          gi_wp2
          go_ret
          exact .inl ⟨rfl, by rw [← HF.out]; exact HJ.out, HKP.out⟩
        · have hi2 : i ≤ m := by omega
          have hi3 : (i : Int) < (m : Int) + 1 := by omega
          have hi4 : (0 : Int) ≤ (i : Int) := by omega
          have hwi : IntKind.i64.wrap ((i : Int) + 1) = (i : Int) + 1 := by rw [IntKind.wrap_i64]; omega
          have h0r : wr.cell? ⟨b, 0, none⟩ = some (.slice A0 m c0) := HKP.out.cell HOKB.out H0.out
          have h1r : wr.cell? ⟨b, 1, none⟩ = some (.slice A1 q c1) := HKP.out.cell HOKB.out H1.out
          clear h0 h1 hi hE
          by_cases hin : i < m
          · have hin2 : (i : Int) < (m : Int) := by omega
            have hsi : i < ts.length := by have := HMM.out; omega
            obtain ⟨ad, Ai, ci, rfl, hcell, sl⟩ := tup_at (Kd.F_now (Kd.F_step HT.out HKP.out.same)) i hsi
            obtain ⟨x, hx⟩ : ∃ x, x = ts[i] := ⟨_, rfl⟩
            rw [← hx] at hcell sl
            have HX := Aside0.mk (show ts[i]?.getD [] = x by rw [hx]; simp [hsi])
            have HFS := Aside0.mk (front_succ (kidl ts kids) ts i HKL.out hsi)
            have HXM := Aside0.mk (show x ∈ (BT.mk ts kids).io from by rw [hx, BT.io_mk]; exact weave_mem_ts _ _ (io_ts HOK.out) _ (List.getElem_mem _))
            clear hx
            by_cases hpx : p x = true
            · have hblx := hbl (n - 1) wr Ai ci x (HKS.out.trans HKP.out) (HLE.out x HXM.out) sl
              rw [hpx] at hblx
              have HN1 := Aside0.mk (below_all HOK.out HUP.out HP.out i hsi (by rw [HX.out]; exact hpx))
              have HN0 := Aside0.mk (show sel p (front (kidl ts kids) ts i) = [] from by
                have h := HN1.out
                rw [HFS.out, sel_append] at h
                exact (List.append_eq_nil_iff.1 h).1)
              gi_wp2_with (first
                | ((try refine ⟨hdd _, ?_⟩); gi_at_call 75; refine hblx.mono ?_; clear hblx; rintro e w1 ⟨rfl, hb1⟩))
              go_roundw
              case rel => exact ⟨i + 1, by omega, by simp, ⟨by rw [HN1.out, ← HN0.out]; exact HB.out _ _ _ HJ.out hb1⟩, ⟨HKP.out.trans (KpF.below hb1)⟩⟩
              case measure => simp [intOf]; omega
            · have hpx2 : p x = false := by simpa using hpx
              have hblx := hbl (n - 1) wr Ai ci x (HKS.out.trans HKP.out) (HLE.out x HXM.out) sl
              rw [hpx2] at hblx
              have hxl : x.length ≤ 1000000 := by have := hQ x (HLE.out x HXM.out); omega
              have HXL := Aside0.mk hxl
              clear hxl
              have HNX := Aside0.mk (show pre ++ sel p (front (kidl ts kids) ts (i + 1)) <+: xs from
                (List.prefix_append_right_inj pre |>.2 (sel_prefix p (by rw [← kidl_io]; exact front_pre _ _ _ HKL.out (by omega)))).trans HPRE.out)
              have HSX := Aside0.mk (sel_yes p x hpx2)
              rcases Nat.eq_zero_or_pos q with hq | hq
              · subst hq
                have hkd : kids = [] := List.length_eq_zero_iff.1 (by have := HLL.out; have := HQQ.out; omega)
                have HFF := Aside0.mk (show sel p (front (kidl ts kids) ts (i + 1)) = sel p (front (kidl ts kids) ts i) ++ [x] from by
                  rw [HFS.out, HX.out, sel_append, hkd, kidl_leaf, List.nil_append, HSX.out])
                clear hkd
                gi_wp2_with (first
                  | ((try refine ⟨hdd _, ?_⟩); gi_at_call 75; refine hblx.mono ?_; clear hblx; rintro e w1 ⟨rfl, hb1⟩; have h0a := pw_cell_below hb1 h0r; have h1a := pw_cell_below hb1 h1r; have hca := pw_cell_below hb1 hcell; have hsl1 := sl.below hb1; have hJ1 := HB.out _ _ _ HJ.out hb1; have HB1 := Aside0.mk hb1; clear hb1)
                  | ((try refine ⟨hdd _, ?_⟩); gi_at_call 44; refine (hcl _ w1 Ai ci x hsl1 HXL.out).mono ?_; rintro e w2 ⟨A2, c2, rfl, hh⟩; have hRo := hR (n - 1) _ x A2 c2 w1 w2 (((HKS.out.trans HKP.out).trans (KpF.below HB1.out)).trans (KpF.below hh.1)) hJ1 (by rw [List.append_assoc, ← HFF.out]; exact HNX.out) hh; have HH := Aside0.mk hh; clear hh)
                  | ((try refine ⟨hdd _, ?_⟩); gi_at_call 77; refine hRo.mono ?_; clear hRo; rintro e w3 (⟨rfl, hJ3, hk3⟩ | ⟨rfl, hx3⟩)))
                · refine ⟨⟨i + 1, by omega, by simp, ⟨by rw [HFF.out, ← List.append_assoc]; exact hJ3⟩, ⟨((HKP.out.trans (KpF.below HB1.out)).trans (KpF.below HH.out.1)).trans hk3⟩⟩, by simp [intOf]; omega⟩
                · go_ret
                  exact .inr ⟨rfl, sel p (front (kidl ts kids) ts (i + 1)), sel_prefix p (by rw [← kidl_io]; exact front_pre _ _ _ HKL.out (by omega)), by rw [HFF.out, ← List.append_assoc]; exact hx3⟩
              · have hip : i < ps.length := by
                  have h1 := HLL.out
                  have h2 := HQQ.out
                  have h3 := HMM.out
                  rcases ((BT.ok_mk ts kids).1 HOK.out).1 with e | e
                  · rw [e] at h1; simp only [List.length_nil] at h1; omega
                  · omega
                have hik : i < kids.length := by have := HLL.out; omega
                have hiq : (i : Int) < (q : Int) := by have := HQQ.out; omega
                have hqp : (q : Int) > 0 := by omega
                obtain ⟨ad1, rfl, hcel1⟩ := nod_at (Kd.F_now (Kd.F_step HN.out HKP.out.same)) i hip
                have HCH := Aside0.mk (walk_child hik hip HOK.out HUP.out HP.out HLE.out HLN.out HSZ.out HK.out HKS.out ih)
                obtain ⟨pb, hpb⟩ : ∃ pb, pb = ps[i] := ⟨_, rfl⟩
                obtain ⟨K0, hK0⟩ : ∃ K0, K0 = kids[i] := ⟨_, rfl⟩
                rw [← hpb] at hcel1 HCH
                rw [← hK0] at HCH
                have HFF := Aside0.mk (show sel p (front (kidl ts kids) ts (i + 1)) = sel p (front (kidl ts kids) ts i) ++ (sel p K0.io ++ [x]) from by
                  rw [HFS.out, HX.out, sel_append, kidl_kid i hik, ← hK0, sel_append, HSX.out])
                have HTX := Aside0.mk (show ∀ w', KpF fp W w' → ∃ Ai ci, w'.cell? (ad.add i) = some (.slice Ai x.length ci) ∧ Sl w' Ai ci x from fun w' hk => by
                  obtain ⟨ad', Ai', ci', e, hc', sl'⟩ := tup_at (Kd.F_now (Kd.F_step HT.out hk.same)) i hsi
                  have e' := Option.some.inj e
                  subst e'
                  have hxe : ts[i] = x := by have := HX.out; simpa [hsi] using this
                  rw [hxe] at hc' sl'
                  exact ⟨Ai', ci', hc', sl'⟩)
                clear hpb hK0 hip hik
                gi_wp2_with (first
                  | ((try refine ⟨hdd _, ?_⟩); gi_at_call 75; refine hblx.mono ?_; clear hblx; rintro e w1 ⟨rfl, hb1⟩; have h0a := pw_cell_below hb1 h0r; have h1a := pw_cell_below hb1 h1r; have hce1 := pw_cell_below hb1 hcel1; have hJ1 := HB.out _ _ _ HJ.out hb1; have HK1 := Aside0.mk (HKP.out.trans (KpF.below hb1)); clear hb1; have hch := walk_beside HCH.out HK1.out hJ1 (by rw [List.append_assoc]; exact (List.prefix_append_right_inj pre |>.2 (by rw [HFF.out, ← List.append_assoc]; exact List.prefix_append _ _)).trans HNX.out) HOKB.out H0.out HTX.out (n - 1))
                  | ((try refine ⟨hdd _, ?_⟩); gi_at_call 76; refine hch.mono ?_; clear hch; rintro e w2 (⟨rfl, hJ2, hk2, h0b, Ai2, ci2, hca2, hsl2⟩ | ⟨rfl, q', hq', hx2⟩))
                  | ((try refine ⟨hdd _, ?_⟩); gi_at_call 44; refine (hcl _ w2 Ai2 ci2 x hsl2 HXL.out).mono ?_; rintro e w4 ⟨A4, c4, rfl, hh⟩; have hRo := hR (n - 1) _ x A4 c4 w2 w4 ((HKS.out.trans hk2).trans (KpF.below hh.1)) hJ2 (by have h := HNX.out; rw [HFF.out] at h; simpa [List.append_assoc] using h) hh; have HH := Aside0.mk hh; clear hh)
                  | ((try refine ⟨hdd _, ?_⟩); gi_at_call 77; refine hRo.mono ?_; clear hRo; rintro e w3 (⟨rfl, hJ3, hk3⟩ | ⟨rfl, hx3⟩)))
                · refine ⟨⟨i + 1, by omega, by simp, ⟨by have h := hJ3; rw [HFF.out]; simpa [List.append_assoc] using h⟩, ⟨(hk2.trans (KpF.below HH.out.1)).trans hk3⟩⟩, by simp [intOf]; omega⟩
                · go_ret
                  exact .inr ⟨rfl, sel p (front (kidl ts kids) ts (i + 1)), sel_prefix p (by rw [← kidl_io]; exact front_pre _ _ _ HKL.out (by omega)), by have h := hx3; rw [HFF.out]; simpa [List.append_assoc] using h⟩
                · go_ret
                  refine .inr ⟨rfl, sel p (front (kidl ts kids) ts i) ++ q', ?_, by rw [← List.append_assoc]; exact hx2⟩
                  refine List.IsPrefix.trans ?_ (sel_prefix p (show front (kidl ts kids) ts (i + 1) <+: (BT.mk ts kids).io by rw [← kidl_io]; exact front_pre _ _ _ HKL.out (by omega)))
                  rw [HFF.out]
                  exact List.prefix_append_right_inj _ |>.2 (hq'.trans (List.prefix_append _ _))
          · obtain rfl : i = m := by omega
            have HFL := Aside0.mk (show front (kidl ts kids) ts (i + 1) = front (kidl ts kids) ts i ++ ((kidl ts kids)[i]?.getD []) by have := front_last (kidl ts kids) ts HKL.out; rw [← HMM.out] at this; exact this)
            have HFA := Aside0.mk (show sel p (front (kidl ts kids) ts (i + 1)) = sel p (BT.mk ts kids).io by rw [HMM.out, front_all _ _ HKL.out, kidl_io])
            rcases Nat.eq_zero_or_pos q with hq | hq
            · subst hq
              have hkd : kids = [] := List.length_eq_zero_iff.1 (by have := HLL.out; have := HQQ.out; omega)
              have HFF := Aside0.mk (show sel p (front (kidl ts kids) ts (i + 1)) = sel p (front (kidl ts kids) ts i) from by
                rw [HFL.out, hkd, kidl_leaf, List.append_nil])
              clear hkd
              gi_wp2
              refine ⟨⟨i + 1, by omega, by simp, ⟨by rw [HFF.out]; exact HJ.out⟩, HKP⟩, by simp [intOf]⟩
            · have hip : i < ps.length := by
                have h1 := HLL.out
                have h2 := HQQ.out
                have h3 := HMM.out
                rcases ((BT.ok_mk ts kids).1 HOK.out).1 with e | e
                · rw [e] at h1; simp only [List.length_nil] at h1; omega
                · omega
              have hik : i < kids.length := by have := HLL.out; omega
              have hiq : (i : Int) < (q : Int) := by have := HQQ.out; omega
              have hqp : (q : Int) > 0 := by omega
              obtain ⟨ad1, rfl, hcel1⟩ := nod_at (Kd.F_now (Kd.F_step HN.out HKP.out.same)) i hip
              have HCH := Aside0.mk (walk_child hik hip HOK.out HUP.out HP.out HLE.out HLN.out HSZ.out HK.out HKS.out ih)
              obtain ⟨pb, hpb⟩ : ∃ pb, pb = ps[i] := ⟨_, rfl⟩
              obtain ⟨K0, hK0⟩ : ∃ K0, K0 = kids[i] := ⟨_, rfl⟩
              rw [← hpb] at hcel1 HCH
              rw [← hK0] at HCH
              have HFF := Aside0.mk (show sel p (front (kidl ts kids) ts (i + 1)) = sel p (front (kidl ts kids) ts i) ++ sel p K0.io from by
                rw [HFL.out, sel_append, kidl_kid i hik, ← hK0])
              have hch := walk_beside0 HCH.out HKP.out HJ.out (by have h := HPRE.out; rw [← HFA.out, HFF.out] at h; simpa [List.append_assoc] using h) HOKB.out H0.out (n - 1)
              clear hpb hK0 hip hik
              gi_wp2_with (first
                | ((try refine ⟨hdd _, ?_⟩); gi_at_call 76; refine hch.mono ?_; clear hch; rintro e w2 (⟨rfl, hJ2, hk2, h0b⟩ | ⟨rfl, q', hq', hx2⟩)))
              · refine ⟨⟨i + 1, by omega, by simp, ⟨by rw [HFF.out, ← List.append_assoc]; exact hJ2⟩, ⟨hk2⟩⟩, by simp [intOf]⟩
              · go_ret
                refine .inr ⟨rfl, sel p (front (kidl ts kids) ts i) ++ q', ?_, by rw [← List.append_assoc]; exact hx2⟩
                rw [← HFA.out, HFF.out]
                exact List.prefix_append_right_inj _ |>.2 hq'
end Go.Proofs.YtcmllllbmgcnlaaGreat.Tup
end
section
namespace Go.Proofs.YtcmllllbmgcnlaaGreat.Tup
open Go.RowKit Go.Lib Go.Shelf Go.Proofs.YtcmllllbmgcnlaaGreat.G Go.Proofs.YtcmllllbmgcnlaaGreatW.PrintWords Go.Proofs.YtcmllllbmgcnlaaGreatW.PrintLast Go.Proofs.YtcmllllbmgcnlaaGreatW.PrintMore
set_option linter.unusedVariables false
set_option linter.unusedSimpArgs false
def recOf (fn : FuncId) (tm : Array Value) (ps : Array Tmp) (assign body : Code) (d : Nat) (st : LoopState) (pe : Option Code) : Loop := { state := st, pending := pe, fn, tmps := tm, params := ps, assign, body, defers := d }
def Marks (Dl : List Nat) (W : World) : Prop := ∀ D ∈ Dl, W.heap[D]? = some (.deferred (some []))
theorem rounds_of {F : Fence} {n : Nat} (hd : F.depth = none) {P : Program} {B l : Nat} (hBl : B ≤ l) {fn : FuncId} {tm : Array Value} {ps : Array Tmp} {assign body : Code} {d : Nat} (hfn : F.fn fn) {fp : Nat → Prop} {xs : List Tp} (hps : ps.size = 1) (I : List Tp → World → Prop) (Ix : Code → List Tp → World → Prop) (hI : OwnFrom B I) (hIx : ∀ c, OwnFrom B (Ix c)) (Dl : List Nat) (hD : ∀ D ∈ Dl, B ≤ D ∧ D ≠ l) (hfp : ∀ k, fp k → k ≠ l) (a₁ : Tp → Option Addr → Nat → Act)
    (hassign : ∀ x A c W (K : Act → World → Prop), K (a₁ x A c) W → assign.wpIn (F.inRound l) n P (Exit.then K (fun _ _ _ => False)) { tmps := (ps.zip #[Value.slice A x.length c]).foldl (fun t (p, v) => t.setIfInBounds p v) tm, defers := [] } W)
    (hbody : ∀ pre x A c W0 W1, (∃ r, W1.heap[l]? = some (.loop r)) → I pre W0 → pre ++ [x] <+: xs → Handed1 W0 W1 A c x → I pre W1 → body.wpIn (F.inRound l) n P (ownPostG B (KpF fp) I Ix (pre ++ [x]) W1) (a₁ x A c) W1) :
    Rounds F P l (fun pre W => I pre W ∧ W.heap[l]? = some (.loop (recOf fn tm ps assign body d .ready none)) ∧ Marks Dl W) (fun pre W => ∃ c, Ix c pre W ∧ W.heap[l]? = some (.loop (recOf fn tm ps assign body d .done (some c))) ∧ Marks Dl W) fp xs := by
  rintro m pre x A c W0 W1 ⟨hi, hl, hk⟩ hpre ⟨hb, ho⟩
  have hlt0 := (Array.getElem?_eq_some_iff.1 hl).1
  have hl1 : W1.heap[l]? = some (.loop (recOf fn tm ps assign body d .ready none)) := (hb.block l hlt0).trans hl
  have hlt1 := (Array.getElem?_eq_some_iff.1 hl1).1
  have hk1 : Marks Dl W1 := fun D hD' => (hb.block D (Array.getElem?_eq_some_iff.1 (hk D hD')).1).trans (hk D hD')
  have hi1 : I pre W1 := hI pre W0 W1 none hi ⟨hb.os, hb.tape, hb.output, hb.size, fun k hk _ => hb.block k hk⟩ (fun r e => by cases e)
  refine yieldAny hd m ⟨fn, _, assign, body, run_yield hl1 (by simp [recOf, hps]), roundIn_of_wpIn hfn (hassign x A c W1 _ ⟨_, run_beginRound hl1 rfl, ?_⟩)⟩
  obtain ⟨ob, hob⟩ : ∃ ob, ob = Obj.loop { recOf fn tm ps assign body d .ready none with state := .busy } := ⟨_, rfl⟩
  rw [← hob]
  have hbb : Below (W0.putObj l ob).heap.size (W0.putObj l ob) (W1.putObj l ob) := ⟨hb.os, hb.tape, hb.output, by simpa using hb.size, fun k hk => by
    by_cases e : k = l
    · subst e; rw [World.putObj_heap_same hlt1, World.putObj_heap_same hlt0]
    · rw [World.putObj_heap_other e, World.putObj_heap_other e]; exact hb.block k (by simpa using hk)⟩
  have hoo : (W1.putObj l ob).ownsRow (W0.putObj l ob).heap.size 3 1 (.slice A x.length c) x.length (x.map (Value.int .i64)) := by
    have := own_move ho (w1 := W1.putObj l ob) (fun k hk => World.putObj_heap_other (fun e => by have := own_ge ho k hk.symm; omega))
    simpa using this
  have hl2 : (W1.putObj l ob).heap[l]? = some ob := World.putObj_heap_same hlt1
  have hk2 : Marks Dl (W1.putObj l ob) := fun D hD' => (World.putObj_heap_other (hD D hD').2).trans (hk1 D hD')
  refine wpIn_mono (hbody pre x A c (W0.putObj l ob) (W1.putObj l ob) ⟨_, hl2.trans (by rw [hob])⟩ (hI.putObj _ hi hBl hl rfl) hpre ⟨hbb, hoo⟩ (hI.putObj _ hi1 hBl hl1 rfl)) ?_
  have hnl := hfp
  have fin : ∀ (jump : Option Code) (W3 : World), KeepsFrom B (W1.putObj l ob) W3 → ∃ v W4, (Instr.endRound l jump).run P W3 = .ok v W4 ∧ v = .bool jump.isNone ∧ W4 = W3.putObj l (.loop (recOf fn tm ps assign body d (if jump.isNone then .ready else .done) jump)) ∧ W3.heap[l]? = some ob ∧ W4.heap[l]? = some (.loop (recOf fn tm ps assign body d (if jump.isNone then .ready else .done) jump)) ∧ Marks Dl W4 := by
    intro jump W3 hk3
    have hl3 : W3.heap[l]? = some ob := hk3.same l ob hBl hl2 (by rw [hob]; rfl)
    have hlt3 := (Array.getElem?_eq_some_iff.1 hl3).1
    refine ⟨_, _, run_endRound jump (hl3.trans (by rw [hob])), rfl, rfl, hl3, World.putObj_heap_same hlt3, fun D hD' => (World.putObj_heap_other (hD D hD').2).trans (hk3.same D _ (hD D hD').1 (hk2 D hD') rfl)⟩
  have stop : ∀ (cc : Code) (W3 : World), KeepsFrom B (W1.putObj l ob) W3 → Ix cc (pre ++ [x]) W3 → ∃ v W4, (Instr.endRound l (some cc)).run P W3 = .ok v W4 ∧ ((Ending.returned v = .returned (.bool true) ∧ (I (pre ++ [x]) W4 ∧ W4.heap[l]? = some (.loop (recOf fn tm ps assign body d .ready none)) ∧ Marks Dl W4) ∧ KpF fp W1 W4) ∨ (Ending.returned v = .returned (.bool false) ∧ ∃ c', Ix c' (pre ++ [x]) W4 ∧ W4.heap[l]? = some (.loop (recOf fn tm ps assign body d .done (some c'))) ∧ Marks Dl W4)) := by
    intro cc W3 hk3 hx
    obtain ⟨v, W4, hr, rfl, rfl, hl3, hl4, hm4⟩ := fin (some cc) W3 hk3
    exact ⟨_, _, hr, .inr ⟨rfl, cc, (hIx cc).putObj _ hx hBl hl3 (by rw [hob]; rfl), hl4, hm4⟩⟩
  rintro e a3 W3 hp
  cases e with
  | normal =>
    obtain ⟨hk3, hkp3, hi3⟩ := hp
    obtain ⟨v, W4, hr, rfl, rfl, hl3, hl4, hm4⟩ := fin none W3 hk3
    refine ⟨_, _, hr, .inl ⟨rfl, ⟨hI.putObj _ hi3 hBl hl3 (by rw [hob]; rfl), hl4, hm4⟩, ?_⟩⟩
    have q1 : KpF fp W1 (W1.putObj l ob) := ⟨by simp, fun k hk _ => World.putObj_heap_other (hnl k hk)⟩
    exact (q1.trans hkp3).trans ⟨by simp, fun k hk _ => World.putObj_heap_other (hnl k hk)⟩
  | ret => exact stop .ret W3 hp.1 hp.2
  | exit id => exact stop (.exit id) W3 hp.1 hp.2
  | goto t => exact stop (.goto t) W3 hp.1 hp.2
  | panic ch => exact hp.elim
  | outgrown => exact hp.elim
theorem range_outer {F : Fence} {n : Nat} {P : Program} {g : Operand} {ps : Array Tmp} {assign body : Code} {Q : Exit → Act → World → Prop} {a : Act} {w : World} (hd : F.depth = none) (hro : F.round = none)
    {gf : Nat} {lb : Array Value} (hg : a.eval g = .func (.func gf) #[] lb) (hFg : F.fn gf) (eg : ∀ args w, (callFunc gf args).run P w = .ok (.enter gf args) w)
    {fp : Nat → Prop} (hfp : ∀ k, fp k → k < w.heap.size) {xs : List Tp} (hseq : SeqR F P gf lb fp xs w) (hps : ps.size = 1)
    (I : Nat → List Tp → World → Prop) (Ix : Nat → Code → List Tp → World → Prop) (hI : ∀ N, w.heap.size + 2 ≤ N → OwnFrom w.heap.size (I N)) (hIx : ∀ N c, w.heap.size + 2 ≤ N → OwnFrom w.heap.size (Ix N c)) (h0 : ∀ W', Below w.heap.size w W' → w.heap.size + 2 ≤ W'.heap.size → I W'.heap.size [] W') (a₁ : Tp → Option Addr → Nat → Act)
    (hassign : ∀ l x A c W (K : Act → World → Prop), K (a₁ x A c) W → assign.wpIn (F.inRound l) n P (Exit.then K (fun _ _ _ => False)) { tmps := (ps.zip #[Value.slice A x.length c]).foldl (fun t (p, v) => t.setIfInBounds p v) a.tmps, defers := [] } W)
    (hbody : ∀ N l pre x A c W0 W1, w.heap.size + 2 ≤ N → w.heap.size ≤ l → (∃ r, W1.heap[l]? = some (.loop r)) → I N pre W0 → pre ++ [x] <+: xs → Handed1 W0 W1 A c x → I N pre W1 → body.wpIn (F.inRound l) n P (ownPostG w.heap.size (KpF (Priv fp (w.heap.size + 2) N)) (I N) (Ix N) (pre ++ [x]) W1) (a₁ x A c) W1)
    (hdone : ∀ (N D : Nat) (W : World), w.heap.size + 2 ≤ N → w.heap.size ≤ D → I N xs W → W.heap[D]? = some (.deferred (some [])) → Q .normal { a with defers := { target := .collected D, args := #[] } :: a.defers } W)
    (hstop : ∀ (N D : Nat) (c : Code) (pre : List Tp) (W : World), w.heap.size + 2 ≤ N → w.heap.size ≤ D → pre <+: xs → Ix N c pre W → W.heap[D]? = some (.deferred (some [])) → c.wpIn F n P Q { a with defers := { target := .collected D, args := #[] } :: a.defers } W) :
    (Code.rangeFunc g ps assign body).wpIn F n P Q a w := by
  refine wpIn_rangeFunc ?_
  intro fn hfn
  rw [hro]
  obtain ⟨W1, hW1⟩ : ∃ W1, (w.alloc (.deferred (some []))).alloc (.loop (recOf fn a.tmps ps assign body w.heap.size .ready none)) = W1 := ⟨_, rfl⟩
  have hL1 : W1.heap[w.heap.size + 1]? = some (.loop (recOf fn a.tmps ps assign body w.heap.size .ready none)) := by
    rw [← hW1]; have := World.alloc_heap_new (w.alloc (.deferred (some []))) (.loop (recOf fn a.tmps ps assign body w.heap.size .ready none)); rwa [World.size_alloc] at this
  have hK1 : W1.heap[w.heap.size]? = some (.deferred (some [])) := by
    rw [← hW1]; exact (Below.heap_alloc _ _ _ (by simp)).trans (World.alloc_heap_new w _)
  have hb1 : Below w.heap.size w W1 := by rw [← hW1]; exact below_alloc (below_alloc (Below.refl _ _) _) _
  have hw1 : W1.heap.size = w.heap.size + 2 := by rw [← hW1]; simp
  refine ⟨w.heap.size + 1, [{ target := .collected w.heap.size, args := #[] }], W1, { target := .fn (.func gf) lb, args := #[.func (.yield (w.heap.size + 1)) #[] #[]] }, W1, gf,
    #[.func (.yield (w.heap.size + 1)) #[] #[]] ++ lb, W1, ?_, ?_, ?_, ?_, (fun h => by rw [hd] at h; cases h), ?_⟩
  · rw [← hW1]; exact run_enterLoop_outer _ _ _ _ _
  · simp only [resolve, hg]
    simp [go_sem]
  · intro f' hf'; simp [Target.leads] at hf'; subst hf'; exact hFg
  · simp [invoke, go_sem, eg]
  · have hR : ∀ N, W1.heap.size ≤ N → _ := fun N hN => rounds_of (n := n) (P := P) (B := w.heap.size) (l := w.heap.size + 1) (d := w.heap.size) (tm := a.tmps) (ps := ps) (assign := assign) (body := body) hd (by omega) hfn (fp := Priv fp (w.heap.size + 2) N) hps (I N) (Ix N) (hI N (by omega)) (fun c => hIx N c (by omega)) [w.heap.size] (fun D hD => by simp at hD; subst hD; omega) (fun k hk e => hk.elim (fun h => absurd (hfp k h) (by omega)) (fun h => by omega)) a₁ (hassign _) (fun pre x A c W0 W1 => hbody N _ pre x A c W0 W1 (by omega) (by omega))
    have keep : ∀ {A B : World} {row : Option Nat} (k : Nat) (o : Obj), A.grownBy B row → (∀ r, row = some r → W1.heap.size ≤ r ∧ ∃ o : Obj, A.heap[r]? = some o ∧ o.isWalk = true) → A.heap[k]? = some o → k < W1.heap.size → B.heap[k]? = some o := fun k o hg hr hk hlt =>
      (hg.block k (Array.getElem?_eq_some_iff.1 hk).1 (fun e => by have := (hr k e.symm).1; omega)).trans hk
    have hnw : ∀ {A : World} {row : Option Nat}, (∀ r, row = some r → W1.heap.size ≤ r ∧ ∃ o : Obj, A.heap[r]? = some o ∧ o.isWalk = true) → (∀ r, row = some r → w.heap.size ≤ r ∧ ∃ o : Obj, A.heap[r]? = some o ∧ o.isCells = false) :=
      fun hr r e => by obtain ⟨hB, o, ho, hw⟩ := hr r e; exact ⟨by omega, o, ho, Obj.not_cells_of_walk hw⟩
    rw [← hw1] at hR
    refine (hseq (w.heap.size + 1) (fun N pre W => I N pre W ∧ W.heap[w.heap.size + 1]? = some (.loop (recOf fn a.tmps ps assign body w.heap.size .ready none)) ∧ Marks [w.heap.size] W) (fun N pre W => ∃ c, Ix N c pre W ∧ W.heap[w.heap.size + 1]? = some (.loop (recOf fn a.tmps ps assign body w.heap.size .done (some c))) ∧ Marks [w.heap.size] W) W1 hb1
      (fun N hN s A B row hs hg' hr => ⟨hI N (by omega) s A B row hs.1 hg' (hnw hr), keep _ _ hg' hr hs.2.1 (by omega), fun D hD => keep _ _ hg' hr (hs.2.2 D hD) (by simp at hD; omega)⟩)
      (fun N hN s A B row hs hg' hr => by
        obtain ⟨c, hc, hl, hk⟩ := hs
        exact ⟨c, hIx N c (by omega) s A B row hc hg' (hnw hr), keep _ _ hg' hr hl (by omega), fun D hD => keep _ _ hg' hr (hk D hD) (by simp at hD; omega)⟩) hR
      (fun W' hW' => ⟨h0 W' (below_then hb1 hb1.size hW') (by have := hW'.size; omega), blk hW' hL1, fun D hD => by simp at hD; subst hD; exact blk hW' hK1⟩) (n - 1)).mono ?_
    rintro e W2 ⟨⟨v, rfl⟩, N, hN, (⟨hi, hl, hk⟩ | ⟨pre, hpre, c, hi, hl, hk⟩)⟩
    · exact ⟨none, _, run_endLoop hl (by simp [recOf]), hdone N _ _ (by omega) (Nat.le_refl _) ((hI N (by omega)).putObj _ hi (by omega) hl rfl) ((World.putObj_heap_other (by omega)).trans (hk _ (by simp)))⟩
    · exact ⟨some c, _, run_endLoop hl (by simp [recOf]), hstop N _ c pre _ (by omega) (Nat.le_refl _) hpre ((hIx N c (by omega)).putObj _ hi (by omega) hl rfl) ((World.putObj_heap_other (by omega)).trans (hk _ (by simp)))⟩
end Go.Proofs.YtcmllllbmgcnlaaGreat.Tup
end
section
namespace Go.Proofs.YtcmllllbmgcnlaaGreat.Tup
open Go.RowKit Go.Lib Go.Shelf Go.Proofs.YtcmllllbmgcnlaaGreat.G Go.Proofs.YtcmllllbmgcnlaaGreatW.PrintWords Go.Proofs.YtcmllllbmgcnlaaGreatW.PrintLast Go.Proofs.YtcmllllbmgcnlaaGreatW.PrintMore
set_option linter.unusedVariables false
set_option linter.unusedSimpArgs false
attribute [local go_sem] Oper.semAt_some
def IsCells (W : World) (k : Nat) : Prop := ∃ o : Obj, W.heap[k]? = some o ∧ o.isCells = true
def IsInts (W : World) (k : Nat) : Prop := ∃ cs fr, W.heap[k]? = some (.cells cs 3 fr)
theorem IsInts.cells {W : World} {k : Nat} (h : IsInts W k) : IsCells W k := by obtain ⟨cs, fr, h⟩ := h; exact ⟨_, h, rfl⟩
theorem isCells_kept {W W' : World} {row : Option Nat} {k : Nat} (h : IsCells W k) (hg : W.grownBy W' row) (hr : ∀ r, row = some r → ∃ o : Obj, W.heap[r]? = some o ∧ o.isCells = false) : W'.heap[k]? = W.heap[k]? ∧ IsCells W' k := by
  obtain ⟨o, ho, hc⟩ := h
  have e : W'.heap[k]? = W.heap[k]? := hg.block k (Array.getElem?_eq_some_iff.1 ho).1 (fun e => by
    obtain ⟨o', ho', hc'⟩ := hr k e.symm
    rw [ho] at ho'; injection ho' with ho'; rw [ho', hc'] at hc; cases hc)
  exact ⟨e, o, e.trans ho, hc⟩
end Go.Proofs.YtcmllllbmgcnlaaGreat.Tup
end
