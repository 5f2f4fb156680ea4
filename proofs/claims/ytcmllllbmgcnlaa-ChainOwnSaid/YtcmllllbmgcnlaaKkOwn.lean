/- ChainServes, walked. ChainMore, walked. ChainOwn, walked. The statement ChainOwn: whatever the input, the law answers true, and the input reads as it did. Conditions: none. -/
import Derived.Test.YtcmllllbmgcnlaaKc4
import Derived.Test.YtcmllllbmgcnlaaRows
import Derived.WalkKit
import Derived.ProofKit
import Derived.OpenShut
import Derived.ShutString
import Derived.ChangeOld
import Derived.Below
import Derived.SizedLaws
import Derived.Test.YtcmllllbmgcnlaaWSized
namespace Go.Proofs.Ytcmllllbmgcnlaa.Ch
open Go.RowKit Go.Deep Go.Proofs.Ytcmllllbmgcnlaa.C Go.Proofs.Ytcmllllbmgcnlaa.ChT Go.Proofs.YtcmllllbmgcnlaaW.PrintWords Go.Proofs.YtcmllllbmgcnlaaW.PrintLast Go.Proofs.YtcmllllbmgcnlaaW.PrintMore
set_option linter.unusedVariables false
set_option linter.unusedSimpArgs false

theorem rright_calls (A : Option Addr) (c : Nat) (o : List Int) (w : World) (h : Sl w A c o) (hn : o.length ≤ 4096) :
    Calls Try.prog 43 #[.slice A o.length c] w fun e w' => e = .returned (.bool (decide (Rt o))) ∧ Drawn0 w w' :=
  vestryref04_Right.calls (2 * o.length + 2) _ _ o _ w h.C h.le (rright_is _ o (by omega) (by omega))

set_option maxHeartbeats 4000000 in
set_option maxRecDepth 100000 in
theorem serves_no (W : World) (width : Int) (A : Option Addr) (c : Nat) (l : List Int) (h : Sl W A c l) (h0 : rwrongS width l ≠ 0) :
    Calls Try.prog 11 #[.int .i64 width, .slice A l.length c] W fun e w' => e = .returned (.bool true) ∧ Below W.heap.size W w' := by
  have hO := orders_calls width A c l W h
  have H := Aside0.mk h
  obtain ⟨z, hz⟩ : ∃ z, z = rwrongS width l := ⟨_, rfl⟩
  rw [← hz] at h0
  have hzd : (z != 0) = true := bne_iff_ne.2 h0
  have HZ := Aside0.mk (And.intro hz h0)
  clear h hz h0
  go_enter Try.func11, Try.ntmps11
  go_wp2_with (first
    | (go_at_call 41; refine hO.mono ?_; clear hO; rintro e w1 ⟨v, y, rfl, hy, hb1, hor⟩; obtain rfl : y = z := hy.trans HZ.out.1.symm; obtain rfl : v = .slice none 0 0 := (hor.resolve_right fun h => HZ.out.2 h.1).2; have HB1 := Aside0.mk hb1; have hR := rwrong_calls width A c l w1 (H.out.below hb1); rw [← HZ.out.1] at hR; clear hy hb1 hor)
    | (go_at_call 42; refine hR.mono ?_; clear hR; rintro e w2 ⟨rfl, hb2⟩; have HB2 := Aside0.mk (below_then HB1.out HB1.out.size hb2); clear hb2)
    | (go_at_call 40; refine (alive_calls w2).mono ?_; rintro e w3 ⟨rfl, hb3⟩; have HB3 := Aside0.mk (below_then HB2.out HB2.out.size hb3); clear hb3))
  go_ret
  exact ⟨by simp, HB3.out⟩

theorem wrong8_of {wd : Nat} (h8 : wd ≤ 8) {l : List Int} (h : wrongS wd l = 0) : wrongS 8 l = 0 := by
  obtain ⟨h1, h2⟩ := good_wrong h8 h
  refine wrong_ok h1 fun ⟨x, hx, hc⟩ => ?_
  have := h2 x hx
  have hpw : (2 : Int) ^ wd ≤ 256 := pow_le_8 wd h8
  rw [shr8] at hc
  omega
theorem rwrong_zero {width : Int} {l : List Int} (h : rwrongS width l = 0) : ∃ wd : Nat, width = wd ∧ wd ≤ 8 ∧ wrongS wd l = 0 := by
  unfold rwrongS at h
  by_cases hw : width < 0 ∨ 8 < width
  · rw [if_pos hw] at h; cases h
  · rw [if_neg hw] at h
    obtain ⟨wd, rfl⟩ := Int.eq_ofNat_of_zero_le (a := width) (by omega)
    exact ⟨wd, rfl, by omega, h⟩

set_option maxHeartbeats 4000000 in
set_option maxRecDepth 100000 in
theorem serves_yes (W : World) (wd : Nat) (h8 : wd ≤ 8) (A : Option Addr) (c : Nat) (l : List Int) (h : Sl W A c l) (h0 : wrongS wd l = 0) :
    Calls Try.prog 11 #[.int .i64 (wd : Int), .slice A l.length c] W fun e w' => e = .returned (.bool true) ∧ Below W.heap.size W w' := by
  have hO := orders_calls wd A c l W h
  have H := Aside0.mk h
  have HZ : Aside0 (rwrongS wd l = 0) := ⟨by unfold rwrongS; rw [if_neg (by omega)]; exact h0⟩
  have HG := Aside0.mk (good_wrong h8 h0)
  have H80 := Aside0.mk (wrong8_of h8 h0)
  clear h h0
  obtain ⟨q, hq⟩ : ∃ q, q = l.length := ⟨_, rfl⟩
  rw [← hq] at hO ⊢
  have HQ := Aside0.mk hq
  have hq256 : q ≤ 256 := by have := HG.out.1; omega
  clear hq
  go_enter Try.func11, Try.ntmps11
  go_wp2_with (first
    | (go_at_call 41; refine hO.mono ?_; clear hO; rintro e w1 ⟨v, y, rfl, hy, hb1, hor⟩; obtain rfl : y = 0 := hy.trans HZ.out; obtain ⟨wd', ovs, rows, hwd, _, hok, hrw, hl⟩ := (hor.resolve_left (fun h => h.1 rfl)).2; (obtain rfl : wd = wd' := by omega); have HB1 := Aside0.mk hb1; have hR := rwrong_calls wd A c l w1 (H.out.below hb1); rw [HZ.out, ← HQ.out] at hR; obtain ⟨A3, c3, hv⟩ := own_slice hrw.own; subst hv; have HLL : Aside0 (rows.length ≤ 257 ∧ ovs.length = rows.length) := ⟨hl, by rw [hrw.len, List.length_map]⟩; (obtain ⟨n, hn⟩ : ∃ n, n = ovs.length := ⟨_, rfl⟩); rw [← hn] at hrw ⊢; have HN := Aside0.mk hn; have HSV := Aside0.mk (orders_serve h8 HG.out.2 hok); (obtain ⟨os, hos⟩ : ∃ os, os = rows.map (ordOf wd) := ⟨_, rfl⟩); rw [← hos] at HSV hrw; have HRW := Aside0.mk hrw; have HOS : Aside0 (os.length = n) := ⟨by rw [hos, List.length_map, hn]; exact HLL.out.2.symm⟩; clear hy hb1 hor hrw hok hwd hl hn hos)
    | (go_at_call 42; refine hR.mono ?_; clear hR; rintro e w2 ⟨rfl, hb2⟩; have HB2 := Aside0.mk (below_then HB1.out HB1.out.size hb2); have HRW2 := Aside0.mk (HRW.out.below hb2); clear hb2)
    | (go_at_call 40; refine (alive_calls w2).mono ?_; rintro e w3 ⟨rfl, hb3⟩; have HB3 := Aside0.mk (below_then HB2.out HB2.out.size hb3); have HRW3 := Aside0.mk (HRW2.out.below hb3); have hL := rleast_calls A c l w3 (H.out.below HB3.out); rw [← HQ.out] at hL; clear hb3)
    | (go_at_call 39; refine hL.mono ?_; clear hL; rintro e w4 ⟨⟨x, y, rfl, hr⟩, hb4⟩; have HB4 := Aside0.mk (below_then HB3.out HB3.out.size hb4); have HRW4 := Aside0.mk (HRW3.out.below hb4); obtain rfl : y = 0 := hr.1.trans H80.out; (obtain rfl : x = (n : Int) := by { obtain ⟨k, a, b⟩ := hr.2.2 rfl; rw [b, a.eq HSV.out.1, HOS.out] }); clear hb4 hr))
  have hn257 : n ≤ 257 := by have := HLL.out; have := HN.out; omega
  go_loopg [46] n (fun gk v46 wr => ∃ (i m : Nat), v46 = .int .i64 (i : Int) ∧ wr = w4.drewN m ∧ Aside0 (i + gk = n))
  case atStart => exact ⟨0, 0, rfl, (World.drewN_zero _).symm, ⟨by omega⟩⟩
  case round =>
    obtain ⟨i, m, rfl, rfl, HI⟩ := hrel
    by_cases hi : i < n
    · have hid : decide (i < n) = true := decide_eq_true hi
      have hii : (i : Int) < (n : Int) := by omega
      have hio : i < os.length := by rw [HOS.out]; exact hi
      obtain ⟨ad, Ai, ci, rfl, hcell0, hsl⟩ := tup_at HRW4.out.C.2.2 i hio
      have hof := HSV.out.2.1 _ (List.getElem_mem hio)
      have hcell : (w4.drewN m).cell? (ad.add i) = some (.slice Ai wd ci) := by rw [← hof.1]; exact hcell0
      have hRi := rright_calls Ai ci os[i] (w4.drewN m) (hsl.drewN m) (by rw [hof.1]; omega)
      rw [hof.1, decide_eq_true hof.2] at hRi
      have HIL := Aside0.mk hi
      clear hcell0 hsl hof hi
      go_wp2_with (first
        | (go_at_call 43; refine hRi.mono ?_; clear hRi; rintro e w5 ⟨rfl, ⟨k, rfl⟩⟩))
      obtain ⟨g2, hg2⟩ : ∃ g2, g2 = gk - 1 := ⟨_, rfl⟩
      go_roundg g2
      case measure => have := HI.out; have := HIL.out; omega
      case rel => exact ⟨i + 1, _, by go_num, rfl, ⟨by have := HI.out; have := HIL.out; omega⟩⟩
    · have hid : decide (i < n) = false := decide_eq_false hi
      clear hi
      go_wp2_with fail
      clear hid
      go_loopg [62] q (fun gk v62 wr => ∃ (i m : Nat), v62 = .int .i64 (i : Int) ∧ wr = w4.drewN m ∧ Aside0 (i + gk = q))
      case atStart => exact ⟨0, _, rfl, rfl, ⟨by omega⟩⟩
      case round =>
        obtain ⟨i, m, rfl, rfl, HI⟩ := hrel
        by_cases hi : i < q
        · have hid : decide (i < q) = true := decide_eq_true hi
          have hii : (i : Int) < (q : Int) := by omega
          have hil : i < l.length := by rw [← HQ.out]; exact hi
          obtain ⟨ad, rfl, hcell0⟩ := sl_cells (H.out.below HB4.out) i hil
          have hsv := HSV.out.2.2 _ (List.getElem_mem hil)
          obtain ⟨s, hs⟩ : ∃ s, s = l[i] := ⟨_, rfl⟩
          rw [← hs] at hcell0 hsv
          have hcell : (w4.drewN m).cell? (ad.add i) = some (.int .i64 s) := hcell0
          have hP := rpick_own (HRW4.out.below (pw_below_drewN (Below.refl _ _) m)) s (by rw [HOS.out]; exact hn257) 8 (fun o ho => by rw [(HSV.out.2.1 o ho).1]; exact h8) (by decide)
          rw [hsv] at hP
          have HIL := Aside0.mk hi
          clear hcell0 hsv hs hi
          go_wp2_with (first
            | (go_at_call 44; refine hP.mono ?_; clear hP; rintro e w5 ⟨rfl, ⟨k, rfl⟩⟩))
          obtain ⟨g2, hg2⟩ : ∃ g2, g2 = gk - 1 := ⟨_, rfl⟩
          go_roundg g2
          case measure => have := HI.out; have := HIL.out; omega
          case rel => exact ⟨i + 1, _, by go_num, rfl, ⟨by have := HI.out; have := HIL.out; omega⟩⟩
        · have hid : decide (i < q) = false := decide_eq_false hi
          go_wp2_with fail
          go_ret
          exact ⟨rfl, pw_below_drewN HB4.out m⟩

theorem chainServes_calls {W : World} (width : Int) (hw : (Lit.int .i64 width).wf = true) (A : Option Addr) (c : Nat) (l : List Int) (h : Sl W A c l) (W' : World) (e : W' = W) :
    Calls Try.prog 11 #[.int .i64 width, .slice A l.length c] W' fun e w' => e = .returned (.bool true) ∧ Below W.heap.size W w' := by
  subst e
  by_cases h0 : rwrongS width l = 0
  · obtain ⟨wd, rfl, h8, h1⟩ := rwrong_zero h0
    exact serves_yes W' wd h8 A c l h h1
  · exact serves_no W' width A c l h h0

end Go.Proofs.Ytcmllllbmgcnlaa.Ch

namespace Go.Proofs.Ytcmllllbmgcnlaa.Ch
open Go.RowKit Go.Deep Go.Proofs.Ytcmllllbmgcnlaa.C Go.Proofs.Ytcmllllbmgcnlaa.ChT Go.Proofs.YtcmllllbmgcnlaaW.PrintWords Go.Proofs.YtcmllllbmgcnlaaW.PrintLast Go.Proofs.YtcmllllbmgcnlaaW.PrintMore
set_option linter.unusedVariables false
set_option linter.unusedSimpArgs false

/-- What ChainMore's last lines ask. -/
theorem more_law {l : List Int} {one x y x' y' : Int} (h : LeastR l x y) (g : LeastR (l ++ [one]) x' y') : (y' = 0 → y = 0) ∧ (y' = 0 → 1 ≤ x ∧ x ≤ 1000 ∧ (x' = x ∨ x' = x + 1)) := by
  have h1 : y' = 0 → y = 0 := fun e => by
    rw [h.1]; exact wrong_snoc (one := one) (by rw [← g.1]; exact e)
  refine ⟨h1, fun e => ?_⟩
  obtain ⟨n, a, rfl⟩ := h.2.2 (h1 e)
  obtain ⟨m, b, rfl⟩ := g.2.2 e
  have h8 := ok_wrong (by rw [← g.1]; exact e : wrongS 8 (l ++ [one]) = 0)
  have hn := least_pos a
  have hle : n ≤ 257 := by
    obtain ⟨u, p, hu, hum, _, e⟩ := a
    have := le_of_nodup hu fun x hx => ((hum x).1 hx).1
    have := h8.1
    simp at this
    omega
  have := least_more h8.2 a b
  omega

theorem more_ways {x y x' y' : Int} (h : (y' = 0 → y = 0) ∧ (y' = 0 → 1 ≤ x ∧ x ≤ 1000 ∧ (x' = x ∨ x' = x + 1))) :
    ((y != 0) = true ∧ (y' != 0) = true) ∨ (y = 0 ∧ (y' != 0) = true) ∨ (y = 0 ∧ y' = 0 ∧ x' = x ∧ 1 ≤ x) ∨ (y = 0 ∧ y' = 0 ∧ x' = x + 1 ∧ 1 ≤ x ∧ wrap64 (x + 1) = x + 1 ∧ ((x + 1) == x) = false) := by
  by_cases h0 : y' = 0
  · have h1 := h.1 h0
    obtain ⟨h2, h3, h4 | h4⟩ := h.2 h0
    · exact .inr (.inr (.inl ⟨h1, h0, h4, h2⟩))
    · exact .inr (.inr (.inr ⟨h1, h0, h4, h2, by unfold wrap64; omega, beq_eq_false_iff_ne.2 (by omega)⟩))
  · by_cases h1 : y = 0
    · exact .inr (.inl ⟨h1, bne_iff_ne.2 h0⟩)
    · exact .inl ⟨bne_iff_ne.2 h1, bne_iff_ne.2 h0⟩

set_option maxHeartbeats 4000000 in
set_option maxRecDepth 100000 in
theorem chainMore_calls {W : World} (A : Option Addr) (c : Nat) (l : List Int) (h : Sl W A c l) (hf : ∀ x ∈ l, (Lit.int .i64 x).wf = true) (hz : l.length * 8 ≤ 140737488351232) (one : Int) (hw : (Lit.int .i64 one).wf = true) (W' : World) (e : W' = W) :
    Calls Try.prog 14 #[.slice A l.length c, .int .i64 one] W' fun e w' => e = .returned (.bool true) ∧ Below W.heap.size W w' := by
  subst e
  have hL := least_calls A c l W' h
  have H := Aside0.mk h
  have HZ := Aside0.mk hz
  clear h hz
  go_enter Try.func14, Try.ntmps14
  go_wp2_with (first
    | (go_at_call 38; refine hL.mono ?_; clear hL; rintro e w1 ⟨⟨x, y, rfl, hr⟩, hb1⟩; have HR := Aside0.mk hr; have HB1 := Aside0.mk hb1; clear hr hb1)
    | ((with_reducible refine gate_builtin (b := .append) (xs := #[.const (.slice none 0 0), .tmp 15]) rfl ?_); at_builtin; refine Kd.R_append_row (Value.int .i64) (0 : Int) (h1 := fun _ => rfl) (w0 := w1) w1.heap.size rfl (.const (.slice none 0 0)) (.tmp 15) 22 3 (.int .i64 0) 8 rfl Try.underlying22 info3 rfl (by omega) (.slice none 0 0) ([] : List Int) l A l.length c (fun _ => True) rfl rfl (fun _ _ => trivial) (Kd.R_nil _ _ _ _ _) (H.out.below HB1.out).C (Below.refl _ _) (Nat.le_refl _) ?aL ?_; (case aL => have := HZ.out; simp; omega); intro v5 w5 r5 b5 g5 t5; rw [List.nil_append] at r5; have R5 := Aside0.mk r5; have B5 := Aside0.mk b5; clear r5 b5 g5 t5; obtain ⟨A5, c5, e5, s5⟩ := R_sl R5.out; subst e5; clear s5)
    | ((with_reducible refine gate_builtin (b := .append) (xs := #[.tmp 16, .tmp 18]) rfl ?_); at_builtin; refine Kd.R_append (Kd.int .i64) (w0 := w1) w1.heap.size rfl (.tmp 16) (.tmp 18) 22 3 (.int .i64 0) 8 rfl Try.underlying22 info3 rfl (by decide) (by omega) (.slice A5 l.length c5) l one [.int .i64 one] (fun _ => True) (fun _ => False) rfl rfl rfl (fun _ hk => hk.elim) (fun _ _ => trivial) R5.out B5.out B5.out.size ?aL ?_; (case aL => have := HZ.out; omega); intro v6 w6 r6 b6 g6 t6; have R6 := Aside0.mk r6; have B6 := Aside0.mk b6; clear r6 b6 g6 t6; obtain ⟨A6, c6, e6, s6⟩ := R_sl R6.out; subst e6; have hM := least_calls A6 c6 (l ++ [one]) w6 s6; rw [show (l ++ [one]).length = l.length + 1 from by simp] at hM; clear s6)
    | (go_at_call 38; refine hM.mono ?_; clear hM; rintro e w2 ⟨⟨x', y', rfl, hr⟩, hb2⟩; have HM := Aside0.mk (more_law HR.out hr); have HB2 := Aside0.mk (below_then HB1.out HB1.out.size (below_then B6.out B6.out.size hb2)); clear hr hb2; rcases more_ways HM.out with ⟨h1, h2⟩ | ⟨rfl, h2⟩ | ⟨rfl, rfl, rfl, h2⟩ | ⟨rfl, rfl, rfl, h2, h3, h4⟩)
    | (go_at_call 40; refine (alive_calls w2).mono ?_; rintro e w3 ⟨rfl, hb3⟩; have HB3 := Aside0.mk (below_then HB2.out HB2.out.size hb3); clear hb3))
  all_goals (go_ret; exact ⟨by simp, HB3.out⟩)

end Go.Proofs.Ytcmllllbmgcnlaa.Ch

namespace Go.Proofs.Ytcmllllbmgcnlaa.Ch
open Go.RowKit Go.Deep Go.Proofs.Ytcmllllbmgcnlaa.C Go.Proofs.Ytcmllllbmgcnlaa.ChT Go.Proofs.YtcmllllbmgcnlaaW.PrintWords Go.Proofs.YtcmllllbmgcnlaaW.PrintLast Go.Proofs.YtcmllllbmgcnlaaW.PrintMore
set_option linter.unusedVariables false
set_option linter.unusedSimpArgs false

theorem same_calls (A0 : Option Addr) (c0 : Nat) (a : List Int) (A1 : Option Addr) (c1 : Nat) (b : List Int) (w : World) (h0 : Sl w A0 c0 a) (h1 : Sl w A1 c1 b) (hn : a.length ≤ 9223372036854775806) :
    Calls Try.prog 25 #[.slice A0 a.length c0, .slice A1 b.length c1] w fun e w' => e = .returned (.bool (decide (a = b))) ∧ Drawn0 w w' :=
  vestryref04_Same.calls (a.length + 1) _ _ a _ _ b _ w h0.C h0.le h1.C h1.le (same_is _ a b hn (by omega))

/-- A store into a row of the call's own. -/
theorem Ow.put {w : World} {base g n cap : Nat} {zs : List Int} (h : Ow w base (.slice (some ⟨g, 0, none⟩) n cap) zs) (k : Nat) (x : Int) : Ow (w.setCell ⟨g, k, none⟩ (.int .i64 x)) base (.slice (some ⟨g, 0, none⟩) n cap) (zs.set k x) ∧ w.grownBy (w.setCell ⟨g, k, none⟩ (.int .i64 x)) (some g) := by
  obtain ⟨A, c, e, _⟩ := ow_slice h
  injection e with e1 e2 e3
  subst e2
  have := Kd.R_put (ow_R h) (k : Int) x
  rw [Int.toNat_natCast] at this
  refine ⟨?_, this.2⟩
  have h2 := Kd.own_of_R this.1
  exact h2

/-- .. beside others. -/
theorem Rw.put {w : World} {base g m cap : Nat} {v : Value} {rvs : List Value} {os : List (List Int)} (h : Rw w base v rvs os) (i : Nat) (hi : i < rvs.length) (ho : i < os.length) (e : rvs[i] = .slice (some ⟨g, 0, none⟩) m cap) (k : Nat) (x : Int) :
    Rw (w.setCell ⟨g, k, none⟩ (.int .i64 x)) base v rvs (os.set i (os[i].set k x)) := by
  have hi0 := h.els i hi ho
  rw [e] at hi0
  obtain ⟨h1, h2⟩ := hi0.put k x
  have hb : rvs[i].ownBlock = some g := by rw [e]; rfl
  refine ⟨own_other h.own h2 ?_, by simp [h.len], fun j h3 h4 => ?_, h.apart⟩
  · have := own_type_ne h.own (h.els i hi ho) (by decide)
    rwa [hb] at this
  · by_cases hj : j = i
    · subst hj
      rw [List.getElem_set_self, e]; exact h1
    · rw [List.getElem_set_ne (Ne.symm hj)]
      refine own_other (h.els j h3 (by simpa using h4)) h2 ?_
      rw [← hb]
      rcases Nat.lt_or_gt_of_ne hj with hlt | hlt
      · exact ne_other (ne_symm (List.pairwise_iff_getElem.1 h.apart j i h3 hi hlt))
      · exact ne_other (List.pairwise_iff_getElem.1 h.apart i j hi h3 hlt)

theorem Rw.cellv {w : World} {base n c : Nat} {ad : Addr} {rvs : List Value} {os : List (List Int)} (h : Rw w base (.slice (some ad) n c) rvs os) (i : Nat) (hr : i < rvs.length) : w.cell? (ad.add i) = some rvs[i] := by
  obtain ⟨g, cap, cur, e, hg, hh, h1, h2, h3, h4⟩ := h.own.2.resolve_left (fun h => by cases h.1)
  injection e with e1 e2 e3
  injection e1 with e1
  subst e1
  rw [add_plain, cell_of_row w g i cur _ (0, 0) hh]
  rw [Nat.mul_one] at h4
  have h7 : (cur.toList.take rvs.length)[i]? = some rvs[i] := by rw [h4]; exact List.getElem?_eq_getElem hr
  rwa [List.getElem?_take_of_lt hr, Array.getElem?_toList] at h7
theorem Rw.some_ {w : World} {base n c : Nat} {A : Option Addr} {rvs : List Value} {os : List (List Int)} (h : Rw w base (.slice A n c) rvs os) (i : Nat) (hr : i < rvs.length) : ∃ ad, A = some ad := by
  rcases h.own.2 with ⟨_, h0⟩ | ⟨g, cap, cur, e, _⟩
  · omega
  · injection e with e1; exact ⟨_, e1⟩
theorem ow_put_at {w : World} {base m cap : Nat} {A : Option Addr} {zs : List Int} (h : Ow w base (.slice A m cap) zs) (k : Nat) (hk : k < zs.length) : ∃ (g : Nat) (z : Int), A = some ⟨g, 0, none⟩ ∧ base ≤ g ∧ w.cell? ⟨g, k, none⟩ = some (.int .i64 z) ∧ w.frozen? ⟨g, k, none⟩ = false := by
  obtain ⟨g, cap', e, hg, _, _⟩ := Kd.R_form (ow_R h) (by omega)
  have hm : m = zs.length := by injection e
  subst hm
  injection e with e1 e2 e3
  subst e1
  obtain ⟨h1, h2⟩ := Kd.R_cell (0 : Int) (ow_R h) (k : Int) (by omega) (by omega)
  rw [Int.toNat_natCast] at h1 h2
  exact ⟨g, _, rfl, hg, h1, h2⟩

set_option maxHeartbeats 4000000 in
set_option maxRecDepth 100000 in
theorem own_no (W : World) (width : Int) (A : Option Addr) (c : Nat) (l : List Int) (h : Sl W A c l) (hz : l.length * 8 ≤ 140737488351232) (h0 : rwrongS width l ≠ 0) :
    Calls Try.prog 15 #[.int .i64 width, .slice A l.length c] W fun e w' => e = .returned (.bool true) ∧ Below W.heap.size W w' := by
  have H := Aside0.mk h
  have HZ := Aside0.mk hz
  obtain ⟨z, hz⟩ : ∃ z, z = rwrongS width l := ⟨_, rfl⟩
  rw [← hz] at h0
  have hzd : (z == 0) = false := beq_eq_false_iff_ne.2 h0
  have HY := Aside0.mk (And.intro hz h0)
  obtain ⟨q, hq⟩ : ∃ q, q = l.length := ⟨_, rfl⟩
  rw [← hq]
  have HQ := Aside0.mk hq
  clear h hz h0 hq
  go_enter Try.func15, Try.ntmps15
  go_wp2_with (first
    | ((with_reducible refine gate_builtin (b := .append) (xs := #[.const (.slice none 0 0), .tmp 16]) rfl ?_); at_builtin; refine Kd.R_append_row (Value.int .i64) (0 : Int) (h1 := fun _ => rfl) (w0 := W) W.heap.size rfl (.const (.slice none 0 0)) (.tmp 16) 22 3 (.int .i64 0) 8 rfl Try.underlying22 info3 rfl (by omega) (.slice none 0 0) ([] : List Int) l A q c (fun _ => True) rfl rfl (fun _ _ => trivial) (Kd.R_nil _ _ _ _ _) ?aC (Below.refl _ _) (Nat.le_refl _) ?aL ?_; (case aC => rw [HQ.out]; exact H.out.C); (case aL => have := HZ.out; rw [HQ.out]; simp; omega); intro v5 w5 r5 b5 g5 t5; rw [List.nil_append] at r5; have B5 := Aside0.mk b5; obtain ⟨A5, c5, e5, s5⟩ := R_sl r5; subst e5; have S5 := Aside0.mk s5; have hO := orders_calls width A5 c5 l w5 s5; rw [← HQ.out] at hO ⊢; clear r5 b5 g5 t5 s5)
    | (go_at_call 41; refine hO.mono ?_; clear hO; rintro e w1 ⟨v, y, rfl, hy, hb1, hor⟩; obtain rfl : y = z := hy.trans HY.out.1.symm; obtain rfl : v = .slice none 0 0 := (hor.resolve_right fun h => HY.out.2 h.1).2; have B6 := Aside0.mk (below_then B5.out B5.out.size hb1); have S6 := Aside0.mk (S5.out.below hb1); have hS := same_calls A5 c5 l A c l w1 S6.out (H.out.below B6.out) (by have := HZ.out; omega); rw [decide_eq_true rfl, ← HQ.out] at hS; clear hy hb1 hor)
    | (go_at_call 25; refine hS.mono ?_; clear hS; rintro e w2 ⟨rfl, ⟨m, rfl⟩⟩; have hO := orders_calls width A5 c5 l (w1.drewN m) (S6.out.drewN m); rw [← HQ.out] at hO))
  have HO2 := Aside0.mk hO
  have B7 : Aside0 (Below W.heap.size W (w1.drewN m)) := ⟨pw_below_drewN B6.out m⟩
  clear hO hz
  generalize w1.drewN m = w2 at HO2 B7 ⊢
  go_loopg [30] 0 (fun gk v30 wr => v30 = .int .i64 0 ∧ wr = w2)
  case atStart => exact ⟨rfl, rfl⟩
  case round =>
    obtain ⟨rfl, rfl⟩ := hrel
    go_wp2_with (first
      | (go_at_call 41; refine (HO2.out).mono ?_; rintro e w3 ⟨v, y', rfl, hy, hb3, hor⟩; obtain rfl : y' = y := hy.trans HY.out.1.symm; obtain rfl : v = .slice none 0 0 := (hor.resolve_right fun h => HY.out.2 h.1).2; have B8 := Aside0.mk (below_then B7.out B7.out.size hb3); clear hy hb3 hor))
    go_loopg [57] q (fun gk v57 wr => ∃ (i m : Nat), v57 = .int .i64 (i : Int) ∧ wr = w3.drewN m ∧ Aside0 (i + gk = q))
    case atStart => exact ⟨0, 0, rfl, (World.drewN_zero _).symm, ⟨by omega⟩⟩
    case round =>
      obtain ⟨i, m, rfl, rfl, HI⟩ := hrel
      by_cases hi : i < q
      · have hid : decide (i < q) = true := decide_eq_true hi
        have hii : (i : Int) < (q : Int) := by omega
        have hil : i < l.length := by rw [← HQ.out]; exact hi
        obtain ⟨ad, rfl, hcell0⟩ := sl_cells (H.out.below B8.out) i hil
        obtain ⟨s, hs⟩ : ∃ s, s = l[i] := ⟨_, rfl⟩
        rw [← hs] at hcell0
        have hcell : (w3.drewN m).cell? (ad.add i) = some (.int .i64 s) := hcell0
        have hP := rpick_own (Rw.nil (w3.drewN m) 0) s (by simp) 0 (by simp) (by decide)
        have HIL := Aside0.mk hi
        clear hcell0 hs hi
        go_wp2_with (first
          | (go_at_call 44; refine hP.mono ?_; clear hP; rintro e w5 ⟨rfl, ⟨k, rfl⟩⟩))
        obtain ⟨g2, hg2⟩ : ∃ g2, g2 = gk - 1 := ⟨_, rfl⟩
        go_roundg g2
        case measure => have := HI.out; have := HIL.out; omega
        case rel => exact ⟨i + 1, _, by rw [wrap_nat _ (by have := HIL.out; have := HQ.out; have := HZ.out; omega)], rfl, ⟨by have := HI.out; have := HIL.out; omega⟩⟩
      · have hid : decide (i < q) = false := decide_eq_false hi
        have HA := Aside0.mk (alive_calls (w3.drewN m))
        go_wp2_with (first
          | (go_at_call 40; refine (HA.out).mono ?_; rintro e w6 ⟨rfl, hb6⟩; have B9 := Aside0.mk (below_then (pw_below_drewN B8.out m) (pw_below_drewN B8.out m).size hb6); clear hb6))
        go_ret
        exact ⟨by simp, B9.out⟩

set_option maxHeartbeats 8000000 in
set_option maxRecDepth 100000 in
theorem own_yes (W : World) (wd : Nat) (h8 : wd ≤ 8) (A : Option Addr) (c : Nat) (l : List Int) (h : Sl W A c l) (h0 : wrongS wd l = 0) :
    Calls Try.prog 15 #[.int .i64 (wd : Int), .slice A l.length c] W fun e w' => e = .returned (.bool true) ∧ Below W.heap.size W w' := by
  have H := Aside0.mk h
  have HZ : Aside0 (rwrongS wd l = 0) := ⟨by unfold rwrongS; rw [if_neg (by omega)]; exact h0⟩
  have HG := Aside0.mk (good_wrong h8 h0)
  obtain ⟨q, hq⟩ : ∃ q, q = l.length := ⟨_, rfl⟩
  rw [← hq]
  have HQ := Aside0.mk hq
  have hq256 : q ≤ 256 := by have := HG.out.1; omega
  clear h h0 hq
  go_enter Try.func15, Try.ntmps15
  go_wp2_with (first
    | ((with_reducible refine gate_builtin (b := .append) (xs := #[.const (.slice none 0 0), .tmp 16]) rfl ?_); at_builtin; refine Kd.R_append_row (Value.int .i64) (0 : Int) (h1 := fun _ => rfl) (w0 := W) W.heap.size rfl (.const (.slice none 0 0)) (.tmp 16) 22 3 (.int .i64 0) 8 rfl Try.underlying22 info3 rfl (by omega) (.slice none 0 0) ([] : List Int) l A q c (fun _ => True) rfl rfl (fun _ _ => trivial) (Kd.R_nil _ _ _ _ _) ?aC (Below.refl _ _) (Nat.le_refl _) ?aL ?_; (case aC => rw [HQ.out]; exact H.out.C); (case aL => simp; omega); intro v5 w5 r5 b5 g5 t5; rw [List.nil_append] at r5; have B5 := Aside0.mk b5; obtain ⟨A5, c5, e5, s5⟩ := R_sl r5; subst e5; have S5 := Aside0.mk s5; have hO := orders_calls wd A5 c5 l w5 s5; rw [← HQ.out] at hO ⊢; clear r5 b5 g5 t5 s5)
    | (go_at_call 41; refine hO.mono ?_; clear hO; rintro e w1 ⟨v, y, rfl, hy, hb1, hor⟩; obtain rfl : y = 0 := hy.trans HZ.out; obtain ⟨wd', ovs, rows, hwd, _, hok, hrw, hl⟩ := (hor.resolve_left (fun h => h.1 rfl)).2; (obtain rfl : wd = wd' := by omega); have BO := Aside0.mk hb1; have B6 := Aside0.mk (below_then B5.out B5.out.size hb1); have S6 := Aside0.mk (S5.out.below hb1); have hS := same_calls A5 c5 l A c l w1 S6.out (H.out.below B6.out) (by have := HQ.out; omega); rw [decide_eq_true rfl, ← HQ.out] at hS; obtain ⟨A3, c3, hv⟩ := own_slice hrw.own; subst hv; have HLL : Aside0 (rows.length ≤ 257 ∧ ovs.length = rows.length) := ⟨hl, by rw [hrw.len, List.length_map]⟩; (obtain ⟨n, hn⟩ : ∃ n, n = ovs.length := ⟨_, rfl⟩); rw [← hn] at hrw ⊢; have HN := Aside0.mk hn; have hsv := orders_serve h8 HG.out.2 hok; (obtain ⟨os, hos⟩ : ∃ os, os = rows.map (ordOf wd) := ⟨_, rfl⟩); rw [← hos] at hsv hrw; have HRW := Aside0.mk hrw; have HOS : Aside0 (os.length = n ∧ (∀ o ∈ os, o.length = wd) ∧ LeastIs l os.length) := ⟨by rw [hos, List.length_map, hn]; exact HLL.out.2.symm, fun o ho => (hsv.2.1 o ho).1, hsv.1⟩; clear hy hb1 hor hrw hok hwd hl hn hos hsv)
    | (go_at_call 25; refine hS.mono ?_; clear hS; rintro e w2 ⟨rfl, ⟨m, rfl⟩⟩))
  have BO2 : Aside0 (Below w5.heap.size w5 (w1.drewN m)) := ⟨pw_below_drewN BO.out m⟩
  have HR2 : Aside0 (∃ os, Rw (w1.drewN m) w5.heap.size (.slice A3 n c3) ovs os ∧ os.length = n ∧ ∀ o ∈ os, o.length = wd) := ⟨os, HRW.out.below (pw_below_drewN (Below.refl _ _) m), HOS.out.1, HOS.out.2.1⟩
  have hn257 : n ≤ 257 := by have := HLL.out; have := HN.out; omega
  generalize w1.drewN m = w2 at BO2 HR2 ⊢
  go_loopg [30] n (fun gk v30 wr => ∃ i : Nat, v30 = .int .i64 (i : Int) ∧ Aside0 (i + gk = n) ∧ Aside0 (Below w5.heap.size w5 wr) ∧ Aside0 (∃ os, Rw wr w5.heap.size (.slice A3 n c3) ovs os ∧ os.length = n ∧ ∀ o ∈ os, o.length = wd))
  case atStart => exact ⟨0, rfl, ⟨by omega⟩, BO2, HR2⟩
  case round =>
    obtain ⟨i, rfl, HI, HB, HRR⟩ := hrel
    by_cases hi : i < n
    · have hid : decide (i < n) = true := decide_eq_true hi
      have hii : (i : Int) < (n : Int) := by omega
      have HIL := Aside0.mk hi
      obtain ⟨os1, hrw1, hl1, hw1⟩ := HRR.out
      have hio : i < os1.length := by rw [hl1]; exact hi
      have hr : i < ovs.length := by rw [hrw1.len]; exact hio
      obtain ⟨ad, rfl⟩ := hrw1.some_ i hr
      have hcell := hrw1.cellv i hr
      obtain ⟨Ai, ci, hrow, _⟩ := ow_slice (hrw1.els i hr hio)
      rw [hw1 _ (List.getElem_mem hio)] at hrow
      rw [hrow] at hcell
      have HROW := Aside0.mk (And.intro hr hrow)
      have HRR2 : Aside0 (∃ os, Rw wr w5.heap.size (.slice (some ad) n c3) ovs os ∧ os.length = n ∧ ∀ o ∈ os, o.length = wd) := HRR
      clear hi
      go_wp2_with fail
      clear hcell hii hid
      go_loopg [38] wd (fun gk v38 wr => ∃ k : Nat, v38 = .int .i64 (k : Int) ∧ Aside0 (k + gk = wd) ∧ Aside0 (Below w5.heap.size w5 wr) ∧ Aside0 (∃ os, Rw wr w5.heap.size (.slice (some ad) n c3) ovs os ∧ os.length = n ∧ ∀ o ∈ os, o.length = wd))
      case atStart => exact ⟨0, rfl, ⟨by omega⟩, HB, HRR2⟩
      case round =>
        obtain ⟨k, rfl, HK, HB3, HR3⟩ := hrel
        by_cases hk : k < wd
        · have hkd : decide (k < wd) = true := decide_eq_true hk
          have hki : (k : Int) < (wd : Int) := by omega
          have hin : (i : Int) < (n : Int) := by have := HIL.out; omega
          obtain ⟨os3, hrw3, hl3, hw3⟩ := HR3.out
          have hio3 : i < os3.length := by rw [hl3]; exact HIL.out
          have hcell3 := hrw3.cellv i hr
          rw [hrow] at hcell3
          have how := hrw3.els i hr hio3
          rw [hrow] at how
          have hlen3 := hw3 _ (List.getElem_mem hio3)
          obtain ⟨g, z3, rfl, hg, hc3, hf3⟩ := ow_put_at how k (by rw [hlen3]; exact hk)
          have HPUT : Aside0 (∃ os, Rw (wr.setCell ⟨g, k, none⟩ (.int .i64 (-1))) w5.heap.size (.slice (some ad) n c3) ovs os ∧ os.length = n ∧ ∀ o ∈ os, o.length = wd) := ⟨_, hrw3.put i hr hio3 hrow k (-1), by simp [hl3], fun o ho => by
            rcases List.mem_or_eq_of_mem_set ho with ho | ho
            · exact hw3 o ho
            · rw [ho]; simp [hlen3]⟩
          have HB4 : Aside0 (Below w5.heap.size w5 (wr.setCell ⟨g, k, none⟩ (.int .i64 (-1)))) := ⟨HB3.out.setCell hg _⟩
          have HKL := Aside0.mk hk
          clear hrw3 hl3 hw3 how hlen3 hg hk
          go_wp2_with fail
          obtain ⟨g2, hg2⟩ : ∃ g2, g2 = gk - 1 := ⟨_, rfl⟩
          go_roundg g2
          case measure => have := HK.out; have := HKL.out; omega
          case rel => exact ⟨k + 1, by (have := HKL.out; go_num), ⟨by have := HK.out; have := HKL.out; omega⟩, HB4, HPUT⟩
        · have hkd : decide (k < wd) = false := decide_eq_false hk
          go_wp2_with fail
          obtain ⟨g2, hg2⟩ : ∃ g2, g2 = n - (i + 1) := ⟨_, rfl⟩
          go_roundg g2
          case measure => have := HI.out; have := HIL.out; omega
          case rel => exact ⟨i + 1, by (have := HIL.out; go_num), ⟨by have := HI.out; have := HIL.out; omega⟩, HB3, HR3⟩
    · have hid : decide (i < n) = false := decide_eq_false hi
      have B7 : Aside0 (Below W.heap.size W wr) := ⟨below_then B5.out B5.out.size HB.out⟩
      have hO := orders_calls wd A5 c5 l wr (S5.out.below HB.out)
      rw [← HQ.out] at hO
      have HO2 := Aside0.mk hO
      clear hO hi
      go_wp2_with (first
        | (go_at_call 41; refine (HO2.out).mono ?_; rintro e w3 ⟨v, y, rfl, hy, hb3, hor⟩; obtain rfl : y = 0 := hy.trans HZ.out; obtain ⟨wd', ovs2, rows2, hwd, _, hok, hrw, hl⟩ := (hor.resolve_left (fun h => h.1 rfl)).2; (obtain rfl : wd = wd' := by omega); have B8 := Aside0.mk (below_then B7.out B7.out.size hb3); have HSV := Aside0.mk (orders_serve h8 HG.out.2 hok); obtain ⟨A6, c6, hv⟩ := own_slice hrw.own; subst hv; (have hn2 : ovs2.length = n := by { rw [hrw.len, HSV.out.1.eq HOS.out.2.2, HOS.out.1] }); rw [hn2] at hrw ⊢; (obtain ⟨os2, hos2⟩ : ∃ os2, os2 = rows2.map (ordOf wd) := ⟨_, rfl⟩); rw [← hos2] at hrw HSV; have HRW2 := Aside0.mk hrw; have HL2 : Aside0 (os2.length ≤ 257) := ⟨by rw [hos2, List.length_map]; exact hl⟩; clear hy hb3 hor hok hrw hwd hl hn2 hos2))
      go_loopg [57] q (fun gk v57 wr => ∃ (i m : Nat), v57 = .int .i64 (i : Int) ∧ wr = w3.drewN m ∧ Aside0 (i + gk = q))
      case atStart => exact ⟨0, 0, rfl, (World.drewN_zero _).symm, ⟨by omega⟩⟩
      case round =>
        obtain ⟨i, m, rfl, rfl, HI⟩ := hrel
        by_cases hi : i < q
        · have hid : decide (i < q) = true := decide_eq_true hi
          have hii : (i : Int) < (q : Int) := by omega
          have hil : i < l.length := by rw [← HQ.out]; exact hi
          obtain ⟨ad, rfl, hcell0⟩ := sl_cells (H.out.below B8.out) i hil
          have hsv := HSV.out.2.2 _ (List.getElem_mem hil)
          obtain ⟨s, hs⟩ : ∃ s, s = l[i] := ⟨_, rfl⟩
          rw [← hs] at hcell0 hsv
          have hcell : (w3.drewN m).cell? (ad.add i) = some (.int .i64 s) := hcell0
          have hP := rpick_own (HRW2.out.below (pw_below_drewN (Below.refl _ _) m)) s HL2.out 8 (fun o ho => by rw [(HSV.out.2.1 o ho).1]; exact h8) (by decide)
          rw [hsv] at hP
          have HIL := Aside0.mk hi
          clear hcell0 hsv hs hi
          go_wp2_with (first
            | (go_at_call 44; refine hP.mono ?_; clear hP; rintro e w8 ⟨rfl, ⟨k, rfl⟩⟩))
          obtain ⟨g2, hg2⟩ : ∃ g2, g2 = gk - 1 := ⟨_, rfl⟩
          go_roundg g2
          case measure => have := HI.out; have := HIL.out; omega
          case rel => exact ⟨i + 1, _, by (have := HIL.out; go_num), rfl, ⟨by have := HI.out; have := HIL.out; omega⟩⟩
        · have hid : decide (i < q) = false := decide_eq_false hi
          have HA := Aside0.mk (alive_calls (w3.drewN m))
          go_wp2_with (first
            | (go_at_call 40; refine (HA.out).mono ?_; rintro e w8 ⟨rfl, hb6⟩; have B9 := Aside0.mk (below_then (pw_below_drewN B8.out m) (pw_below_drewN B8.out m).size hb6); clear hb6))
          go_ret
          exact ⟨by simp, B9.out⟩

theorem chainOwn_calls {W : World} (width : Int) (hw : (Lit.int .i64 width).wf = true) (A : Option Addr) (c : Nat) (l : List Int) (h : Sl W A c l) (hf : ∀ x ∈ l, (Lit.int .i64 x).wf = true) (hz : l.length * 8 ≤ 140737488351232) (W' : World) (e : W' = W) :
    Calls Try.prog 15 #[.int .i64 width, .slice A l.length c] W' fun e w' => e = .returned (.bool true) ∧ Below W.heap.size W w' := by
  subst e
  by_cases h0 : rwrongS width l = 0
  · obtain ⟨wd, rfl, h8, h1⟩ := rwrong_zero h0
    exact own_yes W' wd h8 A c l h h1
  · exact own_no W' width A c l h hz h0

end Go.Proofs.Ytcmllllbmgcnlaa.Ch

namespace Go.Proofs.Ytcmllllbmgcnlaa.chainOwn
open Go.ChangeShapes Go.WideShapes Go.ChangeAt Go.RowKit Go.Proofs.YtcmllllbmgcnlaaW Go.Proofs.Ytcmllllbmgcnlaa.Ch
open Go.ChangeMaps (open_string shut_string)
set_option linter.unusedVariables false
theorem own : ownKnob Try.prog.godebug = none := by kernel_rfl
theorem laidOut : laidOutB Try.prog = true := by kernel_rfl
set_option maxRecDepth 100000 in
theorem lifted (os : Os) (started : os.Started) (H : Type) (enc : TypeId × Value → H) :
    ReturnsInHanded {} Try.checked os 15 .any (Rows.chainOwnSpec.pre6 enc Try.prog Try.f15 Rows.chainOwnRow.domain false) (Rows.chainOwnSpec.post enc Try.prog Try.f15 false true false false) := by
  refine returnsInHanded_of_change_sized (C := Try.checked) own started (by kernel_rfl) Try.func15
    (ChangeSpec.witness6 (enc := enc) (C := Try.checked) false ⟨#[], #[.int .i64 0, .slice none 0 0], []⟩ 8 (by kernel_rfl) (by kernel_rfl) (by kernel_rfl) (by kernel_rfl)) ?_
  intro W base args ds gs before hval0 hW hcnd hsz0 _
  have hsz : (DataW.weightsEach Try.prog (Try.f15.params.toList ++ Rows.chainOwnSpec.plain.varTypes Try.prog) (ds ++ gs)).all (· ≤ reachBytes) = true := hsz0
  have hval : ∀ (j : Nat) t v, Try.f15.params[j]? = some t → args[j]? = some v → Value.okWide Try.prog W .any base t v := hval0
  have hW' := hW
  obtain ⟨p, q, hA0, hV, rfl, hfz, hnd⟩ := hW
  have hA : DataW.TrodAll enc Try.prog W 0 (fun _ => true) true Try.f15.params.toList args.toList ds p := hA0
  rw [Try.params15] at hA hval hsz
  obtain ⟨v0, vs0, d0, ds0, p0, q0, hargs, rfl, rfl, h0, r0⟩ := trodAll_cons hA
  obtain ⟨v1, vs1, d1, ds1, p1, q1, rfl, rfl, rfl, h1, r1⟩ := trodAll_cons r0
  obtain ⟨rfl, rfl, rfl⟩ := trodAll_nil r1
  obtain rfl : args = #[v0, v1] := by cases args; simp_all
  obtain ⟨rfl, rfl⟩ := trodVars_none hV
  have k0 := h0
  have lt0 : ∀ x ∈ p0, x.block < W.heap.size := by obtain ⟨m, hm⟩ := k0; exact DataW.trod_lt m _ _ _ hm
  obtain ⟨n0, rfl, rfl, rfl, w0⟩ := open_int Try.underlying3 (hval 0 3 v0 rfl rfl) h0
  have k1 := h1
  have lt1 : ∀ x ∈ p1, x.block < W.heap.size := by obtain ⟨m, hm⟩ := k1; exact DataW.trod_lt m _ _ _ hm
  obtain ⟨A1, c1, l1, rfl, s1, f1⟩ := open_sl (hval 1 22 v1 rfl rfl) h1
  have y1 : l1.length * 8 ≤ 140737488351232 := PrintWords.sized_ints hsz (j := 1) (t := 22) rfl rfl Try.underlying22 Try.underlying3 (by kernel_rfl) (by kernel_rfl) k1
  clear hA0 hval0 hsz0 hsz
  refine (chainOwn_calls n0 w0 A1 c1 l1 s1 f1 y1 W rfl).mono fun e W' ⟨he, bel⟩ => ?_
  subst he
  exact ⟨_, rfl, _, _, _, [], _, [], hW', trodAll_mk1 (shut_bool Try.underlying4 _), (trodAll_cons_mk (shut_int Try.underlying3 w0) (trodAll_cons_mk (Below.trod laidOut (by kernel_rfl) (of_decide_eq_true (by kernel_rfl)) k1 bel lt1) trodAll_mk0)), rfl, bel.frame _, fun h => by cases h⟩
theorem over : Rows.chainOwnRow.holds Try.pinned (OpenSpec.ofChange Rows.chainOwnSpec) :=
  OpenClaim.holds_of_wide 15 Try.f15 rfl rfl rfl rfl rfl rfl rfl ⟨rfl, rfl, rfl, rfl, rfl⟩ rfl rfl rfl rfl rfl (by kernel_rfl) Try.func15 (by kernel_rfl)
    (of_decide_eq_true (by kernel_rfl)) (by unfold Func.isWrapper; first | (rw [if_pos (by decide +kernel)]; kernel_rfl) | (rw [if_neg (by decide +kernel)]; exact ⟨rfl, rfl⟩))
    (fun os started H enc _ => lifted os started H enc)
end Go.Proofs.Ytcmllllbmgcnlaa.chainOwn
namespace Go.Proofs.Ytcmllllbmgcnlaa
/-- The statement, under a short name, for the claim. -/
theorem chainOwn_holds : Rows.ChainOwnSaid := chainOwn.over
#print axioms chainOwn_holds
end Go.Proofs.Ytcmllllbmgcnlaa
