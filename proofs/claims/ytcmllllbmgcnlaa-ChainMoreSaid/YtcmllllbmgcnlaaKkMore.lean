/- ChainServes, walked. ChainMore, walked. The statement ChainMore: whatever the input, the law answers true, and the input reads as it did. Conditions: none. -/
import Derived.Test.YtcmllllbmgcnlaaKc4
import Derived.Test.YtcmllllbmgcnlaaRows
import Derived.WalkKit
import Derived.ProofKit
import Derived.OpenShut
import Derived.ShutString
import Derived.ChangeOld
import Derived.Below
import Derived.SizedLaws
import Derived.Test.YtcmllllbmgcnlaaWSized
namespace Go.Proofs.Ytcmllllbmgcnlaa.Ch
open Go.RowKit Go.Deep Go.Proofs.Ytcmllllbmgcnlaa.C Go.Proofs.Ytcmllllbmgcnlaa.ChT Go.Proofs.YtcmllllbmgcnlaaW.PrintWords Go.Proofs.YtcmllllbmgcnlaaW.PrintLast Go.Proofs.YtcmllllbmgcnlaaW.PrintMore
set_option linter.unusedVariables false
set_option linter.unusedSimpArgs false

theorem rright_calls (A : Option Addr) (c : Nat) (o : List Int) (w : World) (h : Sl w A c o) (hn : o.length ≤ 4096) :
    Calls Try.prog 43 #[.slice A o.length c] w fun e w' => e = .returned (.bool (decide (Rt o))) ∧ Drawn0 w w' :=
  vestryref04_Right.calls (2 * o.length + 2) _ _ o _ w h.C h.le (rright_is _ o (by omega) (by omega))

set_option maxHeartbeats 4000000 in
set_option maxRecDepth 100000 in
theorem serves_no (W : World) (width : Int) (A : Option Addr) (c : Nat) (l : List Int) (h : Sl W A c l) (h0 : rwrongS width l ≠ 0) :
    Calls Try.prog 11 #[.int .i64 width, .slice A l.length c] W fun e w' => e = .returned (.bool true) ∧ Below W.heap.size W w' := by
  have hO := orders_calls width A c l W h
  have H := Aside0.mk h
  obtain ⟨z, hz⟩ : ∃ z, z = rwrongS width l := ⟨_, rfl⟩
  rw [← hz] at h0
  have hzd : (z != 0) = true := bne_iff_ne.2 h0
  have HZ := Aside0.mk (And.intro hz h0)
  clear h hz h0
  go_enter Try.func11, Try.ntmps11
  go_wp2_with (first
    | (go_at_call 41; refine hO.mono ?_; clear hO; rintro e w1 ⟨v, y, rfl, hy, hb1, hor⟩; obtain rfl : y = z := hy.trans HZ.out.1.symm; obtain rfl : v = .slice none 0 0 := (hor.resolve_right fun h => HZ.out.2 h.1).2; have HB1 := Aside0.mk hb1; have hR := rwrong_calls width A c l w1 (H.out.below hb1); rw [← HZ.out.1] at hR; clear hy hb1 hor)
    | (go_at_call 42; refine hR.mono ?_; clear hR; rintro e w2 ⟨rfl, hb2⟩; have HB2 := Aside0.mk (below_then HB1.out HB1.out.size hb2); clear hb2)
    | (go_at_call 40; refine (alive_calls w2).mono ?_; rintro e w3 ⟨rfl, hb3⟩; have HB3 := Aside0.mk (below_then HB2.out HB2.out.size hb3); clear hb3))
  go_ret
  exact ⟨by simp, HB3.out⟩

theorem wrong8_of {wd : Nat} (h8 : wd ≤ 8) {l : List Int} (h : wrongS wd l = 0) : wrongS 8 l = 0 := by
  obtain ⟨h1, h2⟩ := good_wrong h8 h
  refine wrong_ok h1 fun ⟨x, hx, hc⟩ => ?_
  have := h2 x hx
  have hpw : (2 : Int) ^ wd ≤ 256 := pow_le_8 wd h8
  rw [shr8] at hc
  omega
theorem rwrong_zero {width : Int} {l : List Int} (h : rwrongS width l = 0) : ∃ wd : Nat, width = wd ∧ wd ≤ 8 ∧ wrongS wd l = 0 := by
  unfold rwrongS at h
  by_cases hw : width < 0 ∨ 8 < width
  · rw [if_pos hw] at h; cases h
  · rw [if_neg hw] at h
    obtain ⟨wd, rfl⟩ := Int.eq_ofNat_of_zero_le (a := width) (by omega)
    exact ⟨wd, rfl, by omega, h⟩

set_option maxHeartbeats 4000000 in
set_option maxRecDepth 100000 in
theorem serves_yes (W : World) (wd : Nat) (h8 : wd ≤ 8) (A : Option Addr) (c : Nat) (l : List Int) (h : Sl W A c l) (h0 : wrongS wd l = 0) :
    Calls Try.prog 11 #[.int .i64 (wd : Int), .slice A l.length c] W fun e w' => e = .returned (.bool true) ∧ Below W.heap.size W w' := by
  have hO := orders_calls wd A c l W h
  have H := Aside0.mk h
  have HZ : Aside0 (rwrongS wd l = 0) := ⟨by unfold rwrongS; rw [if_neg (by omega)]; exact h0⟩
  have HG := Aside0.mk (good_wrong h8 h0)
  have H80 := Aside0.mk (wrong8_of h8 h0)
  clear h h0
  obtain ⟨q, hq⟩ : ∃ q, q = l.length := ⟨_, rfl⟩
  rw [← hq] at hO ⊢
  have HQ := Aside0.mk hq
  have hq256 : q ≤ 256 := by have := HG.out.1; omega
  clear hq
  go_enter Try.func11, Try.ntmps11
  go_wp2_with (first
    | (go_at_call 41; refine hO.mono ?_; clear hO; rintro e w1 ⟨v, y, rfl, hy, hb1, hor⟩; obtain rfl : y = 0 := hy.trans HZ.out; obtain ⟨wd', ovs, rows, hwd, _, hok, hrw, hl⟩ := (hor.resolve_left (fun h => h.1 rfl)).2; (obtain rfl : wd = wd' := by omega); have HB1 := Aside0.mk hb1; have hR := rwrong_calls wd A c l w1 (H.out.below hb1); rw [HZ.out, ← HQ.out] at hR; obtain ⟨A3, c3, hv⟩ := own_slice hrw.own; subst hv; have HLL : Aside0 (rows.length ≤ 257 ∧ ovs.length = rows.length) := ⟨hl, by rw [hrw.len, List.length_map]⟩; (obtain ⟨n, hn⟩ : ∃ n, n = ovs.length := ⟨_, rfl⟩); rw [← hn] at hrw ⊢; have HN := Aside0.mk hn; have HSV := Aside0.mk (orders_serve h8 HG.out.2 hok); (obtain ⟨os, hos⟩ : ∃ os, os = rows.map (ordOf wd) := ⟨_, rfl⟩); rw [← hos] at HSV hrw; have HRW := Aside0.mk hrw; have HOS : Aside0 (os.length = n) := ⟨by rw [hos, List.length_map, hn]; exact HLL.out.2.symm⟩; clear hy hb1 hor hrw hok hwd hl hn hos)
    | (go_at_call 42; refine hR.mono ?_; clear hR; rintro e w2 ⟨rfl, hb2⟩; have HB2 := Aside0.mk (below_then HB1.out HB1.out.size hb2); have HRW2 := Aside0.mk (HRW.out.below hb2); clear hb2)
    | (go_at_call 40; refine (alive_calls w2).mono ?_; rintro e w3 ⟨rfl, hb3⟩; have HB3 := Aside0.mk (below_then HB2.out HB2.out.size hb3); have HRW3 := Aside0.mk (HRW2.out.below hb3); have hL := rleast_calls A c l w3 (H.out.below HB3.out); rw [← HQ.out] at hL; clear hb3)
    | (go_at_call 39; refine hL.mono ?_; clear hL; rintro e w4 ⟨⟨x, y, rfl, hr⟩, hb4⟩; have HB4 := Aside0.mk (below_then HB3.out HB3.out.size hb4); have HRW4 := Aside0.mk (HRW3.out.below hb4); obtain rfl : y = 0 := hr.1.trans H80.out; (obtain rfl : x = (n : Int) := by { obtain ⟨k, a, b⟩ := hr.2.2 rfl; rw [b, a.eq HSV.out.1, HOS.out] }); clear hb4 hr))
  have hn257 : n ≤ 257 := by have := HLL.out; have := HN.out; omega
  go_loopg [46] n (fun gk v46 wr => ∃ (i m : Nat), v46 = .int .i64 (i : Int) ∧ wr = w4.drewN m ∧ Aside0 (i + gk = n))
  case atStart => exact ⟨0, 0, rfl, (World.drewN_zero _).symm, ⟨by omega⟩⟩
  case round =>
    obtain ⟨i, m, rfl, rfl, HI⟩ := hrel
    by_cases hi : i < n
    · have hid : decide (i < n) = true := decide_eq_true hi
      have hii : (i : Int) < (n : Int) := by omega
      have hio : i < os.length := by rw [HOS.out]; exact hi
      obtain ⟨ad, Ai, ci, rfl, hcell0, hsl⟩ := tup_at HRW4.out.C.2.2 i hio
      have hof := HSV.out.2.1 _ (List.getElem_mem hio)
      have hcell : (w4.drewN m).cell? (ad.add i) = some (.slice Ai wd ci) := by rw [← hof.1]; exact hcell0
      have hRi := rright_calls Ai ci os[i] (w4.drewN m) (hsl.drewN m) (by rw [hof.1]; omega)
      rw [hof.1, decide_eq_true hof.2] at hRi
      have HIL := Aside0.mk hi
      clear hcell0 hsl hof hi
      go_wp2_with (first
        | (go_at_call 43; refine hRi.mono ?_; clear hRi; rintro e w5 ⟨rfl, ⟨k, rfl⟩⟩))
      obtain ⟨g2, hg2⟩ : ∃ g2, g2 = gk - 1 := ⟨_, rfl⟩
      go_roundg g2
      case measure => have := HI.out; have := HIL.out; omega
      case rel => exact ⟨i + 1, _, by go_num, rfl, ⟨by have := HI.out; have := HIL.out; omega⟩⟩
    · have hid : decide (i < n) = false := decide_eq_false hi
      clear hi
      go_wp2_with fail
      clear hid
      go_loopg [62] q (fun gk v62 wr => ∃ (i m : Nat), v62 = .int .i64 (i : Int) ∧ wr = w4.drewN m ∧ Aside0 (i + gk = q))
      case atStart => exact ⟨0, _, rfl, rfl, ⟨by omega⟩⟩
      case round =>
        obtain ⟨i, m, rfl, rfl, HI⟩ := hrel
        by_cases hi : i < q
        · have hid : decide (i < q) = true := decide_eq_true hi
          have hii : (i : Int) < (q : Int) := by omega
          have hil : i < l.length := by rw [← HQ.out]; exact hi
          obtain ⟨ad, rfl, hcell0⟩ := sl_cells (H.out.below HB4.out) i hil
          have hsv := HSV.out.2.2 _ (List.getElem_mem hil)
          obtain ⟨s, hs⟩ : ∃ s, s = l[i] := ⟨_, rfl⟩
          rw [← hs] at hcell0 hsv
          have hcell : (w4.drewN m).cell? (ad.add i) = some (.int .i64 s) := hcell0
          have hP := rpick_own (HRW4.out.below (pw_below_drewN (Below.refl _ _) m)) s (by rw [HOS.out]; exact hn257) 8 (fun o ho => by rw [(HSV.out.2.1 o ho).1]; exact h8) (by decide)
          rw [hsv] at hP
          have HIL := Aside0.mk hi
          clear hcell0 hsv hs hi
          go_wp2_with (first
            | (go_at_call 44; refine hP.mono ?_; clear hP; rintro e w5 ⟨rfl, ⟨k, rfl⟩⟩))
          obtain ⟨g2, hg2⟩ : ∃ g2, g2 = gk - 1 := ⟨_, rfl⟩
          go_roundg g2
          case measure => have := HI.out; have := HIL.out; omega
          case rel => exact ⟨i + 1, _, by go_num, rfl, ⟨by have := HI.out; have := HIL.out; omega⟩⟩
        · have hid : decide (i < q) = false := decide_eq_false hi
          go_wp2_with fail
          go_ret
          exact ⟨rfl, pw_below_drewN HB4.out m⟩

theorem chainServes_calls {W : World} (width : Int) (hw : (Lit.int .i64 width).wf = true) (A : Option Addr) (c : Nat) (l : List Int) (h : Sl W A c l) (W' : World) (e : W' = W) :
    Calls Try.prog 11 #[.int .i64 width, .slice A l.length c] W' fun e w' => e = .returned (.bool true) ∧ Below W.heap.size W w' := by
  subst e
  by_cases h0 : rwrongS width l = 0
  · obtain ⟨wd, rfl, h8, h1⟩ := rwrong_zero h0
    exact serves_yes W' wd h8 A c l h h1
  · exact serves_no W' width A c l h h0

end Go.Proofs.Ytcmllllbmgcnlaa.Ch

namespace Go.Proofs.Ytcmllllbmgcnlaa.Ch
open Go.RowKit Go.Deep Go.Proofs.Ytcmllllbmgcnlaa.C Go.Proofs.Ytcmllllbmgcnlaa.ChT Go.Proofs.YtcmllllbmgcnlaaW.PrintWords Go.Proofs.YtcmllllbmgcnlaaW.PrintLast Go.Proofs.YtcmllllbmgcnlaaW.PrintMore
set_option linter.unusedVariables false
set_option linter.unusedSimpArgs false

/-- What ChainMore's last lines ask. -/
theorem more_law {l : List Int} {one x y x' y' : Int} (h : LeastR l x y) (g : LeastR (l ++ [one]) x' y') : (y' = 0 → y = 0) ∧ (y' = 0 → 1 ≤ x ∧ x ≤ 1000 ∧ (x' = x ∨ x' = x + 1)) := by
  have h1 : y' = 0 → y = 0 := fun e => by
    rw [h.1]; exact wrong_snoc (one := one) (by rw [← g.1]; exact e)
  refine ⟨h1, fun e => ?_⟩
  obtain ⟨n, a, rfl⟩ := h.2.2 (h1 e)
  obtain ⟨m, b, rfl⟩ := g.2.2 e
  have h8 := ok_wrong (by rw [← g.1]; exact e : wrongS 8 (l ++ [one]) = 0)
  have hn := least_pos a
  have hle : n ≤ 257 := by
    obtain ⟨u, p, hu, hum, _, e⟩ := a
    have := le_of_nodup hu fun x hx => ((hum x).1 hx).1
    have := h8.1
    simp at this
    omega
  have := least_more h8.2 a b
  omega

theorem more_ways {x y x' y' : Int} (h : (y' = 0 → y = 0) ∧ (y' = 0 → 1 ≤ x ∧ x ≤ 1000 ∧ (x' = x ∨ x' = x + 1))) :
    ((y != 0) = true ∧ (y' != 0) = true) ∨ (y = 0 ∧ (y' != 0) = true) ∨ (y = 0 ∧ y' = 0 ∧ x' = x ∧ 1 ≤ x) ∨ (y = 0 ∧ y' = 0 ∧ x' = x + 1 ∧ 1 ≤ x ∧ wrap64 (x + 1) = x + 1 ∧ ((x + 1) == x) = false) := by
  by_cases h0 : y' = 0
  · have h1 := h.1 h0
    obtain ⟨h2, h3, h4 | h4⟩ := h.2 h0
    · exact .inr (.inr (.inl ⟨h1, h0, h4, h2⟩))
    · exact .inr (.inr (.inr ⟨h1, h0, h4, h2, by unfold wrap64; omega, beq_eq_false_iff_ne.2 (by omega)⟩))
  · by_cases h1 : y = 0
    · exact .inr (.inl ⟨h1, bne_iff_ne.2 h0⟩)
    · exact .inl ⟨bne_iff_ne.2 h1, bne_iff_ne.2 h0⟩

set_option maxHeartbeats 4000000 in
set_option maxRecDepth 100000 in
theorem chainMore_calls {W : World} (A : Option Addr) (c : Nat) (l : List Int) (h : Sl W A c l) (hf : ∀ x ∈ l, (Lit.int .i64 x).wf = true) (hz : l.length * 8 ≤ 140737488351232) (one : Int) (hw : (Lit.int .i64 one).wf = true) (W' : World) (e : W' = W) :
    Calls Try.prog 14 #[.slice A l.length c, .int .i64 one] W' fun e w' => e = .returned (.bool true) ∧ Below W.heap.size W w' := by
  subst e
  have hL := least_calls A c l W' h
  have H := Aside0.mk h
  have HZ := Aside0.mk hz
  clear h hz
  go_enter Try.func14, Try.ntmps14
  go_wp2_with (first
    | (go_at_call 38; refine hL.mono ?_; clear hL; rintro e w1 ⟨⟨x, y, rfl, hr⟩, hb1⟩; have HR := Aside0.mk hr; have HB1 := Aside0.mk hb1; clear hr hb1)
    | ((with_reducible refine gate_builtin (b := .append) (xs := #[.const (.slice none 0 0), .tmp 15]) rfl ?_); at_builtin; refine Kd.R_append_row (Value.int .i64) (0 : Int) (h1 := fun _ => rfl) (w0 := w1) w1.heap.size rfl (.const (.slice none 0 0)) (.tmp 15) 22 3 (.int .i64 0) 8 rfl Try.underlying22 info3 rfl (by omega) (.slice none 0 0) ([] : List Int) l A l.length c (fun _ => True) rfl rfl (fun _ _ => trivial) (Kd.R_nil _ _ _ _ _) (H.out.below HB1.out).C (Below.refl _ _) (Nat.le_refl _) ?aL ?_; (case aL => have := HZ.out; simp; omega); intro v5 w5 r5 b5 g5 t5; rw [List.nil_append] at r5; have R5 := Aside0.mk r5; have B5 := Aside0.mk b5; clear r5 b5 g5 t5; obtain ⟨A5, c5, e5, s5⟩ := R_sl R5.out; subst e5; clear s5)
    | ((with_reducible refine gate_builtin (b := .append) (xs := #[.tmp 16, .tmp 18]) rfl ?_); at_builtin; refine Kd.R_append (Kd.int .i64) (w0 := w1) w1.heap.size rfl (.tmp 16) (.tmp 18) 22 3 (.int .i64 0) 8 rfl Try.underlying22 info3 rfl (by decide) (by omega) (.slice A5 l.length c5) l one [.int .i64 one] (fun _ => True) (fun _ => False) rfl rfl rfl (fun _ hk => hk.elim) (fun _ _ => trivial) R5.out B5.out B5.out.size ?aL ?_; (case aL => have := HZ.out; omega); intro v6 w6 r6 b6 g6 t6; have R6 := Aside0.mk r6; have B6 := Aside0.mk b6; clear r6 b6 g6 t6; obtain ⟨A6, c6, e6, s6⟩ := R_sl R6.out; subst e6; have hM := least_calls A6 c6 (l ++ [one]) w6 s6; rw [show (l ++ [one]).length = l.length + 1 from by simp] at hM; clear s6)
    | (go_at_call 38; refine hM.mono ?_; clear hM; rintro e w2 ⟨⟨x', y', rfl, hr⟩, hb2⟩; have HM := Aside0.mk (more_law HR.out hr); have HB2 := Aside0.mk (below_then HB1.out HB1.out.size (below_then B6.out B6.out.size hb2)); clear hr hb2; rcases more_ways HM.out with ⟨h1, h2⟩ | ⟨rfl, h2⟩ | ⟨rfl, rfl, rfl, h2⟩ | ⟨rfl, rfl, rfl, h2, h3, h4⟩)
    | (go_at_call 40; refine (alive_calls w2).mono ?_; rintro e w3 ⟨rfl, hb3⟩; have HB3 := Aside0.mk (below_then HB2.out HB2.out.size hb3); clear hb3))
  all_goals (go_ret; exact ⟨by simp, HB3.out⟩)

end Go.Proofs.Ytcmllllbmgcnlaa.Ch

namespace Go.Proofs.Ytcmllllbmgcnlaa.chainMore
open Go.ChangeShapes Go.WideShapes Go.ChangeAt Go.RowKit Go.Proofs.YtcmllllbmgcnlaaW Go.Proofs.Ytcmllllbmgcnlaa.Ch
open Go.ChangeMaps (open_string shut_string)
set_option linter.unusedVariables false
theorem own : ownKnob Try.prog.godebug = none := by kernel_rfl
theorem laidOut : laidOutB Try.prog = true := by kernel_rfl
set_option maxRecDepth 100000 in
theorem lifted (os : Os) (started : os.Started) (H : Type) (enc : TypeId × Value → H) :
    ReturnsInHanded {} Try.checked os 14 .any (Rows.chainMoreSpec.pre6 enc Try.prog Try.f14 Rows.chainMoreRow.domain false) (Rows.chainMoreSpec.post enc Try.prog Try.f14 false true false false) := by
  refine returnsInHanded_of_change_sized (C := Try.checked) own started (by kernel_rfl) Try.func14
    (ChangeSpec.witness6 (enc := enc) (C := Try.checked) false ⟨#[], #[.slice none 0 0, .int .i64 0], []⟩ 8 (by kernel_rfl) (by kernel_rfl) (by kernel_rfl) (by kernel_rfl)) ?_
  intro W base args ds gs before hval0 hW hcnd hsz0 _
  have hsz : (DataW.weightsEach Try.prog (Try.f14.params.toList ++ Rows.chainMoreSpec.plain.varTypes Try.prog) (ds ++ gs)).all (· ≤ reachBytes) = true := hsz0
  have hval : ∀ (j : Nat) t v, Try.f14.params[j]? = some t → args[j]? = some v → Value.okWide Try.prog W .any base t v := hval0
  have hW' := hW
  obtain ⟨p, q, hA0, hV, rfl, hfz, hnd⟩ := hW
  have hA : DataW.TrodAll enc Try.prog W 0 (fun _ => true) true Try.f14.params.toList args.toList ds p := hA0
  rw [Try.params14] at hA hval hsz
  obtain ⟨v0, vs0, d0, ds0, p0, q0, hargs, rfl, rfl, h0, r0⟩ := trodAll_cons hA
  obtain ⟨v1, vs1, d1, ds1, p1, q1, rfl, rfl, rfl, h1, r1⟩ := trodAll_cons r0
  obtain ⟨rfl, rfl, rfl⟩ := trodAll_nil r1
  obtain rfl : args = #[v0, v1] := by cases args; simp_all
  obtain ⟨rfl, rfl⟩ := trodVars_none hV
  have k0 := h0
  have lt0 : ∀ x ∈ p0, x.block < W.heap.size := by obtain ⟨m, hm⟩ := k0; exact DataW.trod_lt m _ _ _ hm
  obtain ⟨A0, c0, l0, rfl, s0, f0⟩ := open_sl (hval 0 22 v0 rfl rfl) h0
  have y0 : l0.length * 8 ≤ 140737488351232 := PrintWords.sized_ints hsz (j := 0) (t := 22) rfl rfl Try.underlying22 Try.underlying3 (by kernel_rfl) (by kernel_rfl) k0
  have k1 := h1
  have lt1 : ∀ x ∈ p1, x.block < W.heap.size := by obtain ⟨m, hm⟩ := k1; exact DataW.trod_lt m _ _ _ hm
  obtain ⟨n1, rfl, rfl, rfl, w1⟩ := open_int Try.underlying3 (hval 1 3 v1 rfl rfl) h1
  clear hA0 hval0 hsz0 hsz
  refine (chainMore_calls A0 c0 l0 s0 f0 y0 n1 w1 W rfl).mono fun e W' ⟨he, bel⟩ => ?_
  subst he
  exact ⟨_, rfl, _, _, _, [], _, [], hW', trodAll_mk1 (shut_bool Try.underlying4 _), (trodAll_cons_mk (Below.trod laidOut (by kernel_rfl) (of_decide_eq_true (by kernel_rfl)) k0 bel lt0) (trodAll_cons_mk (shut_int Try.underlying3 w1) trodAll_mk0)), rfl, bel.frame _, fun h => by cases h⟩
theorem over : Rows.chainMoreRow.holds Try.pinned (OpenSpec.ofChange Rows.chainMoreSpec) :=
  OpenClaim.holds_of_wide 14 Try.f14 rfl rfl rfl rfl rfl rfl rfl ⟨rfl, rfl, rfl, rfl, rfl⟩ rfl rfl rfl rfl rfl (by kernel_rfl) Try.func14 (by kernel_rfl)
    (of_decide_eq_true (by kernel_rfl)) (by unfold Func.isWrapper; first | (rw [if_pos (by decide +kernel)]; kernel_rfl) | (rw [if_neg (by decide +kernel)]; exact ⟨rfl, rfl⟩))
    (fun os started H enc _ => lifted os started H enc)
end Go.Proofs.Ytcmllllbmgcnlaa.chainMore
namespace Go.Proofs.Ytcmllllbmgcnlaa
/-- The statement, under a short name, for the claim. -/
theorem chainMore_holds : Rows.ChainMoreSaid := chainMore.over
#print axioms chainMore_holds
end Go.Proofs.Ytcmllllbmgcnlaa
