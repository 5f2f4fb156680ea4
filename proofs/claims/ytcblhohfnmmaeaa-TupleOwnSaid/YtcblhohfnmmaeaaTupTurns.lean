/- The walk of the law TupleTurns. -/
import Derived.Test.YtcblhohfnmmaeaaTupAll
namespace Go.Proofs.Ytcblhohfnmmaeaa.Tup
open Go.RowKit Go.Proofs.Ytcblhohfnmmaeaa.F Go.Proofs.YtcblhohfnmmaeaaW.PrintWords Go.Proofs.YtcblhohfnmmaeaaW.PrintLast Go.Proofs.YtcblhohfnmmaeaaW.PrintMore
set_option linter.unusedVariables false
set_option linter.unusedSimpArgs false

theorem rd_set (xs : List Int) (c : Int) (v : Int) (h0 : 0 ≤ c) (hc : c < xs.length) (x : Int) (hx : 0 ≤ x) : rd (xs.set c.toNat v) x = if x = c then v else rd xs x := by
  unfold rd
  rw [List.getD_eq_getElem?_getD, List.getD_eq_getElem?_getD, List.getElem?_set]
  by_cases h : x = c
  · subst h; rw [if_pos rfl, if_pos rfl, if_pos (by omega)]; rfl
  · rw [if_neg (by omega), if_neg h]
theorem backL_old (o : List Int) (i : Nat) (t out : List Int) (hr : ∀ c ∈ o, 0 ≤ c ∧ c < out.length) (x : Int) (hx : 0 ≤ x) (hn : x ∉ o) : rd (backL o i t out) x = rd out x := by
  induction o generalizing i out with
  | nil => rfl
  | cons c o ih =>
    have h := hr c (by simp)
    have hne : ¬ x = c := fun e => hn (by simp [e])
    rw [backL, ih _ _ (fun y hy => by rw [List.length_set]; exact hr y (by simp [hy])) (fun hy => hn (by simp [hy])), rd_set _ _ _ h.1 h.2 _ hx, if_neg hne]
theorem backL_at (o : List Int) (i : Nat) (t out : List Int) (hr : ∀ c ∈ o, 0 ≤ c ∧ c < out.length) (hn : o.Nodup) (j : Nat) (hj : j < o.length) : rd (backL o i t out) (rd o j) = rd t ((i + j : Nat) : Int) := by
  induction o generalizing i out j with
  | nil => simp at hj
  | cons c o ih =>
    have h := hr c (by simp)
    rw [List.nodup_cons] at hn
    cases j with
    | zero =>
      have e : rd (c :: o) ((0 : Nat) : Int) = c := rfl
      rw [e, backL, backL_old _ _ _ _ (fun y hy => by rw [List.length_set]; exact hr y (by simp [hy])) _ h.1 hn.1, rd_set _ _ _ h.1 h.2 _ h.1, if_pos rfl]
      rfl
    | succ j =>
      have e : rd (c :: o) ((j + 1 : Nat) : Int) = rd o (j : Int) := by simp [rd]
      simp only [List.length_cons] at hj
      rw [e, backL, ih (i + 1) _ (fun y hy => by rw [List.length_set]; exact hr y (by simp [hy])) hn.2 j (by omega)]
      congr 2; omega
theorem rd_map (o t : List Int) (j : Nat) (hj : j < o.length) : rd (o.map (fun c => rd t c)) (j : Int) = rd t (rd o (j : Int)) := by
  simp [rd, hj]
theorem fit_turn {o a : List Int} (h : Fit o a) : Fit o (turnS o a) := by
  unfold turnS; rw [if_pos h]; exact ⟨by simp, h.2⟩
theorem fit_back {o a : List Int} (h : Fit o a) : Fit o (backS o a) := by
  unfold backS; rw [if_pos h]; exact ⟨by rw [backL_len]; simp [h.1], h.2⟩
theorem turn_back (o a : List Int) (h : Fit o a) : turnS o (backS o a) = a := by
  have hb := fit_back h
  unfold turnS
  rw [if_pos hb]
  unfold backS
  rw [if_pos h]
  have hl := h.1
  refine rd_ext (by simp [hl]) (fun i hi => ?_)
  have hi' : i < o.length := by simpa using hi
  rw [rd_map _ _ _ hi', backL_at o 0 a _ (fun c hc => by have := h.2.2.1 c hc; simp; omega) h.2.2.2 i hi', Nat.zero_add]
theorem back_turn (o a : List Int) (h : Fit o a) : backS o (turnS o a) = a := by
  have ht := fit_turn h
  have hl := h.1
  refine same_of_order (fit_back ht) h (fun c hc => ?_)
  unfold backS
  rw [if_pos ht]
  obtain ⟨j, hj, rfl⟩ := List.getElem_of_mem hc
  have e : o[j] = rd o (j : Int) := by simp [rd, hj]
  rw [e, backL_at o 0 _ _ (fun c hc => by have := h.2.2.1 c hc; have := ht.1; simp; omega) h.2.2.2 j hj, Nat.zero_add]
  unfold turnS
  rw [if_pos h, rd_map _ _ _ hj]
/-- The order of two tuples by the pairs alone. -/
def cmpP : List (Int × Int) → Int
  | [] => 0
  | p :: l => if p.1 < p.2 then -1 else if p.1 > p.2 then 1 else cmpP l
theorem cmpL_pairs (o a b : List Int) : cmpL o a b = cmpP (o.map fun c => (rd a c, rd b c)) := by
  induction o with
  | nil => rfl
  | cons c o ih => simp only [cmpL, List.map_cons, cmpP, ih]
theorem rt_upto (n : Nat) (h : n ≤ 8) : Rt (upto n) := ⟨by rw [upto_len]; exact h, fun c hc => by rw [upto_len]; exact mem_upto.1 hc, upto_nodup n⟩
theorem cmp_turned (o a b : List Int) (ha : Fit o a) (hb : Fit o b) : cmpS (upto o.length) (turnS o a) (turnS o b) = cmpS o a b := by
  have hu := rt_upto o.length ha.2.1
  have fa : Fit (upto o.length) (turnS o a) := ⟨by rw [(fit_turn ha).1, upto_len], hu⟩
  have fb : Fit (upto o.length) (turnS o b) := ⟨by rw [(fit_turn hb).1, upto_len], hu⟩
  unfold cmpS
  rw [if_pos ⟨fa, fb⟩, if_pos ⟨ha, hb⟩, cmpL_pairs, cmpL_pairs]
  congr 1
  unfold turnS
  rw [if_pos ha, if_pos hb]
  apply List.ext_getElem
  · simp [upto_len]
  · intro i h1 h2
    have hi : i < o.length := by simpa using h2
    have e : (upto o.length)[i]'(by rw [upto_len]; exact hi) = (i : Int) := by simp [upto]
    simp only [List.getElem_map, e]
    rw [rd_map _ _ _ hi, rd_map _ _ _ hi]
    simp [rd, hi]

/-- The plain order, filled to i. -/
def fillL (n i : Nat) : List Int := upto i ++ List.replicate (n - i) 0
theorem fill_len (n i : Nat) (h : i ≤ n) : (fillL n i).length = n := by simp [fillL, upto_len]; omega
theorem fill_start (n : Nat) : fillL n 0 = List.replicate n 0 := by simp [fillL, upto]
theorem fill_end (n : Nat) : fillL n n = upto n := by simp [fillL]
theorem fill_step (n i : Nat) (h : i < n) : (fillL n i).set i (i : Int) = fillL n (i + 1) := by
  unfold fillL
  obtain ⟨d, hd⟩ : ∃ d, n - i = d + 1 := ⟨n - i - 1, by omega⟩
  have hd' : n - (i + 1) = d := by omega
  rw [hd, hd', List.set_append_right _ _ (by rw [upto_len]; exact Nat.le_refl _), upto_len, Nat.sub_self, List.replicate_succ, List.set_cons_zero]
  have : upto (i + 1) = upto i ++ [(i : Int)] := by simp [upto, List.range_succ]
  rw [this]; simp

set_option maxHeartbeats 2000000 in
set_option maxRecDepth 100000 in
theorem turns_no (A0 : Option Addr) (c0 : Nat) (o : List Int) (A1 : Option Addr) (c1 : Nat) (a : List Int) (A2 : Option Addr) (c2 : Nat) (b : List Int) (w : World)
    (h0 : Sl w A0 c0 o) (h1 : Sl w A1 c1 a) (h2 : Sl w A2 c2 b) (hR : ¬ Rt o) :
    Calls Try.prog 5 #[.slice A0 o.length c0, .slice A1 a.length c1, .slice A2 b.length c2] w fun e w' => e = .returned (.bool true) ∧ Below w.heap.size w w' := by
  go_enter Try.func5, Try.ntmps5
  go_wp2_with (first
    | (go_at_call 9; refine (right_no _ _ _ _ h0 hR).mono ?_; rintro e w' ⟨rfl, ⟨nd, rfl⟩⟩)
    | (go_at_call 10; refine (alive_calls _).mono ?_; rintro e w' ⟨rfl, hb⟩))
  go_ret
  exact ⟨rfl, (((Since.refl _).drewN _).step hb).b⟩

set_option maxHeartbeats 2000000 in
set_option maxRecDepth 100000 in
theorem turns_len1 (A0 : Option Addr) (c0 : Nat) (o : List Int) (A1 : Option Addr) (c1 : Nat) (a : List Int) (A2 : Option Addr) (c2 : Nat) (b : List Int) (w : World)
    (h0 : Sl w A0 c0 o) (h1 : Sl w A1 c1 a) (h2 : Sl w A2 c2 b) (hR : Rt o) (e1 : ((a.length : Int) != (o.length : Int)) = true) (e1' : (a.length == o.length) = false) :
    Calls Try.prog 5 #[.slice A0 o.length c0, .slice A1 a.length c1, .slice A2 b.length c2] w fun e w' => e = .returned (.bool true) ∧ Below w.heap.size w w' := by
  go_enter Try.func5, Try.ntmps5
  go_wp2_with (first
    | (go_at_call 9; refine (right_yes _ _ _ _ h0 hR).mono ?_; rintro e w' ⟨rfl, ⟨nd, rfl⟩⟩)
    | (go_at_call 10; refine (alive_calls _).mono ?_; rintro e w' ⟨rfl, hb⟩))
  go_ret
  exact ⟨rfl, (((Since.refl _).drewN _).step hb).b⟩

set_option maxHeartbeats 2000000 in
set_option maxRecDepth 100000 in
theorem turns_len2 (A0 : Option Addr) (c0 : Nat) (o : List Int) (A1 : Option Addr) (c1 : Nat) (a : List Int) (A2 : Option Addr) (c2 : Nat) (b : List Int) (w : World)
    (h0 : Sl w A0 c0 o) (h1 : Sl w A1 c1 a) (h2 : Sl w A2 c2 b) (hR : Rt o) (e1 : ((a.length : Int) != (o.length : Int)) = false) (e1' : (a.length == o.length) = true) (e2 : ((b.length : Int) != (o.length : Int)) = true) (e2' : (b.length == o.length) = false) :
    Calls Try.prog 5 #[.slice A0 o.length c0, .slice A1 a.length c1, .slice A2 b.length c2] w fun e w' => e = .returned (.bool true) ∧ Below w.heap.size w w' := by
  go_enter Try.func5, Try.ntmps5
  go_wp2_with (first
    | (go_at_call 9; refine (right_yes _ _ _ _ h0 hR).mono ?_; rintro e w' ⟨rfl, ⟨nd, rfl⟩⟩)
    | (go_at_call 10; refine (alive_calls _).mono ?_; rintro e w' ⟨rfl, hb⟩))
  go_ret
  exact ⟨rfl, (((Since.refl _).drewN _).step hb).b⟩

set_option maxHeartbeats 2000000 in
set_option maxRecDepth 100000 in
theorem turns_yes (A0 : Option Addr) (c0 : Nat) (o : List Int) (A1 : Option Addr) (c1 : Nat) (a : List Int) (A2 : Option Addr) (c2 : Nat) (b : List Int) (w : World)
    (h0 : Sl w A0 c0 o) (h1 : Sl w A1 c1 a) (h2 : Sl w A2 c2 b) (hR : Rt o) (e1 : ((a.length : Int) != (o.length : Int)) = false) (e1' : (a.length == o.length) = true) (e2 : ((b.length : Int) != (o.length : Int)) = false) (e2' : (b.length == o.length) = true) :
    Calls Try.prog 5 #[.slice A0 o.length c0, .slice A1 a.length c1, .slice A2 b.length c2] w fun e w' => e = .returned (.bool true) ∧ Below w.heap.size w w' := by
  have la : a.length = o.length := by simpa using e1'
  have lb : b.length = o.length := by simpa using e2'
  have h8 := hR.1
  have sa : a.length ≤ 9223372036854775806 := by omega
  have m1 := back_turn o a ⟨la, hR⟩
  have m2 := turn_back o a ⟨la, hR⟩
  have m3 := cmp_turned o a b ⟨la, hR⟩ ⟨lb, hR⟩
  obtain ⟨x, hx⟩ : ∃ r, turnS o a = r := ⟨_, rfl⟩
  obtain ⟨y, hy⟩ : ∃ r, turnS o b = r := ⟨_, rfl⟩
  obtain ⟨u, hu⟩ : ∃ r, backS o a = r := ⟨_, rfl⟩
  obtain ⟨m, hm⟩ : ∃ r, cmpS o a b = r := ⟨_, rfl⟩
  obtain ⟨pl, hpl⟩ : ∃ r, upto o.length = r := ⟨_, rfl⟩
  have lpl : o.length = pl.length := by rw [← hpl, upto_len]
  rw [hx] at m1
  rw [hu] at m2
  rw [hx, hy, hm, hpl] at m3
  have f17a := Aside0.mk (fun w' s t => hx ▸ turn_calls A0 c0 o A1 c1 a w' s t)
  have f17b := Aside0.mk (fun w' s t => hy ▸ turn_calls A0 c0 o A2 c2 b w' s t)
  have f18x := Aside0.mk (fun A c w' s t => m1 ▸ back_calls A0 c0 o A c x w' s t)
  have f18a := Aside0.mk (fun w' s t => hu ▸ back_calls A0 c0 o A1 c1 a w' s t)
  have f17u := Aside0.mk (fun A c w' s t => m2 ▸ turn_calls A0 c0 o A c u w' s t)
  have f11p := Aside0.mk (show ∀ A c A' c' A'' c'' w', Sl w' A c pl → Sl w' A' c' x → Sl w' A'' c'' y → Calls Try.prog 11 #[.slice A o.length c, .slice A' x.length c', .slice A'' y.length c''] w' (fun e w'' => e = .returned (.int .i64 m) ∧ Below w'.heap.size w' w'') from fun A c A' c' A'' c'' w' s t q => by
    have := cmp_calls A c pl A' c' x A'' c'' y w' s t q
    rw [m3, ← lpl] at this
    exact this)
  have f11o := Aside0.mk (fun w' s t q => hm ▸ cmp_calls A0 c0 o A1 c1 a A2 c2 b w' s t q)
  have HPL := Aside0.mk hpl
  have LPL := Aside0.mk lpl
  clear m1 m2 m3 hx hy hu hm hpl lpl la lb
  have HN := Aside0.mk h8
  have b8 : (o.length : Int).toNat ≤ 35184372088832 := by omega
  have b9 : 0 ≤ (o.length : Int) := by omega
  have B8 := decide_eq_true b8
  have B9 := decide_eq_true b9
  have HS := Aside0.mk (Since.refl w)
  go_enter Try.func5, Try.ntmps5
  go_wp2_with (first
    | (go_at_call 9; refine (right_yes _ _ _ _ h0 hR).mono ?_; rintro e w' ⟨rfl, ⟨nd, rfl⟩⟩; have HS' := Aside0.mk (HS.out.drewN nd); clear HS; have HS := HS'; clear HS')
    | ((with_reducible refine gate_dst (N := 31) rfl ?_); (try (refine gate_guard (by rfl) ?_; dsimp only)); refine Kd.R_make (Kd.int .i64) _ 3 rfl (N := 31) rfl 22 _ _ rfl (o.length : Int) rfl rfl Try.underlying22 (.int .i64 0) 8 info3 rfl (by decide) (by omega) 0 (ok := fun _ => True) (okp := fun _ => True) rfl (fun _ hk => hk) trivial (of_decide_eq_true (by first | (with_reducible assumption) | assumption)) (Nat.le_trans (Nat.mul_le_mul_right _ (of_decide_eq_true (by first | (with_reducible assumption) | assumption) : (o.length : Int).toNat ≤ 35184372088832)) (by omega)) (Below.refl _ _) (Nat.le_refl _) ?_; intro v172 w13 ho14 hb hg_ hnew_; clear hg_ hnew_; have n0_ := Aside0.mk (Kd.R_lower ho14 HS.out.b.size); have n1_ := Aside0.mk (HS.out.step hb); clear HS; have HO := n0_; have HS := n1_; clear n0_ n1_ hb ho14; obtain ⟨Ao, co, eo⟩ := Kd.R_slice HO.out; rw [List.length_replicate, Int.toNat_natCast] at eo; subst eo))
  go_loopg [34] o.length (fun gk v34 w' => ∃ i : Nat, v34 = .int .i64 (i : Int) ∧ Aside0 (i + gk = o.length) ∧ Aside0 (Kd.R (Kd.int .i64) 3 w' w.heap.size (fun _ => True) (.slice Ao o.length co) (fillL o.length i)) ∧ Aside0 (Since w w'))
  case atStart => exact ⟨0, by simp, ⟨by omega⟩, ⟨by have := HO.out; rw [Int.toNat_natCast] at this; rw [fill_start]; exact this⟩, HS⟩
  case round =>
    obtain ⟨i, rfl, HI, HF, HW⟩ := hrel
    by_cases hlt : i < o.length
    · have p19 : 0 ≤ (i : Int) := by omega
      have q19 : (i : Int) < (o.length : Int) := by omega
      have hfl := fill_len o.length i (by omega)
      obtain ⟨g, cg, eg, gb, gl, cl, hg0⟩ := Kd.R_form HF.out (by omega)
      injection eg with ea en ec
      subst ea
      subst ec
      clear en hfl
      have GB := Aside0.mk gb
      have GG := Aside0.mk hg0
      clear gb gl hg0
      obtain ⟨hx0, hf0⟩ := Kd.R_celln 0 HF.out (i : Int) p19 q19
      have HP := Kd.R_putg HF.out (i : Int) (i : Int)
      rw [Int.toNat_natCast, fill_step o.length i hlt] at HP
      have HP' := Aside0.mk HP
      clear HP
      rw [Int.toNat_natCast] at hx0 hf0
      obtain ⟨k2, rfl⟩ : ∃ k2, gk = k2 + 1 := ⟨gk - 1, by have := HI.out; omega⟩
      go_wp2
      go_roundg k2
      case measure => omega
      case rel => exact ⟨i + 1, by go_num, ⟨by have := HI.out; omega⟩, ⟨HP'.out.1⟩, ⟨⟨below_set HW.out.b GB.out⟩⟩⟩
    · have hi : i = o.length := by have := HI.out; omega
      have hF := HF.out
      rw [hi, fill_end, HPL.out] at hF
      obtain ⟨Ap, cp, ep, sp⟩ := R_sl hF
      have EP := Aside0.mk ep
      have SP := Aside0.mk sp
      clear ep sp hF HF hi HO
      have h := EP.out
      rw [← LPL.out] at h
      injection h with ea en ec
      subst ea
      subst ec
      clear en EP
      clear HS
      have HS := HW
      clear HW LPL HPL
      go_wp2_with (first
        | (go_at_call 17; ((with_reducible refine (f17a.out _ ?s1 ?s2).mono ?_); (case s1 => exact Since.sl HS.out h0); (case s2 => exact Since.sl HS.out h1); rintro e w1 ⟨Ax, cx, rfl, sx, hb⟩; have SPl := Aside0.mk (SP.out.below hb); have SX := Aside0.mk sx; clear sx SP; have hs' := HS.out.step hb; clear HS; have HS := Aside0.mk hs'; clear hs'))
        | (go_at_call 17; ((with_reducible refine (f17b.out _ ?s1 ?s2).mono ?_); (case s1 => exact Since.sl HS.out h0); (case s2 => exact Since.sl HS.out h2); rintro e w2 ⟨Ay, cy, rfl, sy, hb⟩; have SP2 := Aside0.mk (SPl.out.below hb); have SX2 := Aside0.mk (SX.out.below hb); have SY := Aside0.mk sy; clear sy SX SPl; have hs' := HS.out.step hb; clear HS; have HS := Aside0.mk hs'; clear hs'))
        | (go_at_call 18; ((with_reducible refine (f18x.out Ax cx _ ?s1 ?s2).mono ?_); (case s1 => exact Since.sl HS.out h0); (case s2 => exact SX2.out); rintro e w3 ⟨Ba, cB, rfl, sB, hb⟩; have SP3 := Aside0.mk (SP2.out.below hb); have SX3 := Aside0.mk (SX2.out.below hb); have SY3 := Aside0.mk (SY.out.below hb); have SB := Aside0.mk sB; clear sB SP2 SX2 SY; have hs' := HS.out.step hb; clear HS; have HS := Aside0.mk hs'; clear hs'))
        | (go_at_call 12; ((with_reducible refine (same_self Ba cB a A1 c1 _ ?s1 ?s2 sa).mono ?_); (case s1 => exact SB.out); (case s2 => exact Since.sl HS.out h1); rintro e w4 ⟨rfl, ⟨nd4, rfl⟩⟩; have hs' := HS.out.drewN nd4; clear HS; have HS := Aside0.mk hs'; clear hs'; have SP4 := Aside0.mk (SP3.out.drewN nd4); have SX4 := Aside0.mk (SX3.out.drewN nd4); have SY4 := Aside0.mk (SY3.out.drewN nd4); clear SP3 SX3 SY3 SB))
        | (go_at_call 18; ((with_reducible refine (f18a.out _ ?s1 ?s2).mono ?_); (case s1 => exact Since.sl HS.out h0); (case s2 => exact Since.sl HS.out h1); rintro e w5 ⟨Au, cu, rfl, su, hb⟩; have SP5 := Aside0.mk (SP4.out.below hb); have SX5 := Aside0.mk (SX4.out.below hb); have SY5 := Aside0.mk (SY4.out.below hb); have SU := Aside0.mk su; clear su SP4 SX4 SY4; have hs' := HS.out.step hb; clear HS; have HS := Aside0.mk hs'; clear hs'))
        | (go_at_call 17; ((with_reducible refine (f17u.out Au cu _ ?s1 ?s2).mono ?_); (case s1 => exact Since.sl HS.out h0); (case s2 => exact SU.out); rintro e w6 ⟨Da, cD, rfl, sD, hb⟩; have SP6 := Aside0.mk (SP5.out.below hb); have SX6 := Aside0.mk (SX5.out.below hb); have SY6 := Aside0.mk (SY5.out.below hb); have SD := Aside0.mk sD; clear sD SP5 SX5 SY5 SU; have hs' := HS.out.step hb; clear HS; have HS := Aside0.mk hs'; clear hs'))
        | (go_at_call 12; ((with_reducible refine (same_self Da cD a A1 c1 _ ?s1 ?s2 sa).mono ?_); (case s1 => exact SD.out); (case s2 => exact Since.sl HS.out h1); rintro e w7 ⟨rfl, ⟨nd7, rfl⟩⟩; have hs' := HS.out.drewN nd7; clear HS; have HS := Aside0.mk hs'; clear hs'; have SP7 := Aside0.mk (SP6.out.drewN nd7); have SX7 := Aside0.mk (SX6.out.drewN nd7); have SY7 := Aside0.mk (SY6.out.drewN nd7); clear SP6 SX6 SY6 SD))
        | (go_at_call 11; ((with_reducible refine (f11p.out Ao co Ax cx Ay cy _ ?s1 ?s2 ?s3).mono ?_); (case s1 => exact SP7.out); (case s2 => exact SX7.out); (case s3 => exact SY7.out); rintro e w8 ⟨rfl, hb⟩; have hs' := HS.out.step hb; clear HS; have HS := Aside0.mk hs'; clear hs'))
        | (go_at_call 11; ((with_reducible refine (f11o.out _ ?s1 ?s2 ?s3).mono ?_); (case s1 => exact Since.sl HS.out h0); (case s2 => exact Since.sl HS.out h1); (case s3 => exact Since.sl HS.out h2); rintro e w9 ⟨rfl, hb⟩; have hs' := HS.out.step hb; clear HS; have HS := Aside0.mk hs'; clear hs'))
        | (go_at_call 10; refine (alive_calls _).mono ?_; rintro e w10 ⟨rfl, hb⟩; have hs' := HS.out.step hb; clear HS; have HS := Aside0.mk hs'; clear hs'))
      go_ret
      exact ⟨rfl, HS.out.b⟩

/-- The law TupleTurns answers true. -/
theorem turns_law_calls (A0 : Option Addr) (c0 : Nat) (o : List Int) {W : World} (h0 : Sl W A0 c0 o) (_ : ∀ x ∈ o, (Lit.int .i64 x).wf = true) (_ : o.length * 8 ≤ 140737488351232) (A1 : Option Addr) (c1 : Nat) (a : List Int) (h1 : Sl W A1 c1 a) (_ : ∀ x ∈ a, (Lit.int .i64 x).wf = true) (_ : a.length * 8 ≤ 140737488351232) (A2 : Option Addr) (c2 : Nat) (b : List Int) (h2 : Sl W A2 c2 b) (_ : ∀ x ∈ b, (Lit.int .i64 x).wf = true) (_ : b.length * 8 ≤ 140737488351232) (w : World) (hw : w = W) :
    Calls Try.prog 5 #[.slice A0 o.length c0, .slice A1 a.length c1, .slice A2 b.length c2] w fun e w' => e = .returned (.bool true) ∧ Below w.heap.size w w' := by
  subst hw
  by_cases hR : Rt o
  · by_cases e1 : a.length = o.length
    · by_cases e2 : b.length = o.length
      · exact turns_yes A0 c0 o A1 c1 a A2 c2 b w h0 h1 h2 hR (len_yes e1).1 (len_yes e1).2 (len_yes e2).1 (len_yes e2).2
      · exact turns_len2 A0 c0 o A1 c1 a A2 c2 b w h0 h1 h2 hR (len_yes e1).1 (len_yes e1).2 (len_no e2).1 (len_no e2).2
    · exact turns_len1 A0 c0 o A1 c1 a A2 c2 b w h0 h1 h2 hR (len_no e1).1 (len_no e1).2
  · exact turns_no A0 c0 o A1 c1 a A2 c2 b w h0 h1 h2 hR

end Go.Proofs.Ytcblhohfnmmaeaa.Tup
