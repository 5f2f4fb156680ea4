/- ChainServes, walked. ChainMore, walked. ChainOwn, walked. ChainApart: plain. ChainApart, walked. How ChainApart's arguments are opened; the law over them. The statement ChainApart: whatever the input, the law answers true, and the input reads as it did. Conditions: none. -/
import Derived.Test.YtcmllllbmgcnlaaKc4
import Derived.ProofKit
import Derived.OpenShut
import Derived.ChangeOld
import Derived.Lib.SmallJoins
import Derived.Laws.IdiomArrays
import Derived.Deep.Slices
import Derived.SizedLaws
import Derived.Test.YtcmllllbmgcnlaaWSized
import Derived.Test.YtcmllllbmgcnlaaRows
import Derived.WalkKit
import Derived.ShutString
import Derived.Below
namespace Go.Proofs.Ytcmllllbmgcnlaa.Ch
open Go.RowKit Go.Deep Go.Proofs.Ytcmllllbmgcnlaa.C Go.Proofs.Ytcmllllbmgcnlaa.ChT Go.Proofs.YtcmllllbmgcnlaaW.PrintWords Go.Proofs.YtcmllllbmgcnlaaW.PrintLast Go.Proofs.YtcmllllbmgcnlaaW.PrintMore
set_option linter.unusedVariables false
set_option linter.unusedSimpArgs false

theorem rright_calls (A : Option Addr) (c : Nat) (o : List Int) (w : World) (h : Sl w A c o) (hn : o.length ≤ 4096) :
    Calls Try.prog 43 #[.slice A o.length c] w fun e w' => e = .returned (.bool (decide (Rt o))) ∧ Drawn0 w w' :=
  vestryref04_Right.calls (2 * o.length + 2) _ _ o _ w h.C h.le (rright_is _ o (by omega) (by omega))

set_option maxHeartbeats 4000000 in
set_option maxRecDepth 100000 in
theorem serves_no (W : World) (width : Int) (A : Option Addr) (c : Nat) (l : List Int) (h : Sl W A c l) (h0 : rwrongS width l ≠ 0) :
    Calls Try.prog 11 #[.int .i64 width, .slice A l.length c] W fun e w' => e = .returned (.bool true) ∧ Below W.heap.size W w' := by
  have hO := orders_calls width A c l W h
  have H := Aside0.mk h
  obtain ⟨z, hz⟩ : ∃ z, z = rwrongS width l := ⟨_, rfl⟩
  rw [← hz] at h0
  have hzd : (z != 0) = true := bne_iff_ne.2 h0
  have HZ := Aside0.mk (And.intro hz h0)
  clear h hz h0
  go_enter Try.func11, Try.ntmps11
  go_wp2_with (first
    | (go_at_call 41; refine hO.mono ?_; clear hO; rintro e w1 ⟨v, y, rfl, hy, hb1, hor⟩; obtain rfl : y = z := hy.trans HZ.out.1.symm; obtain rfl : v = .slice none 0 0 := (hor.resolve_right fun h => HZ.out.2 h.1).2; have HB1 := Aside0.mk hb1; have hR := rwrong_calls width A c l w1 (H.out.below hb1); rw [← HZ.out.1] at hR; clear hy hb1 hor)
    | (go_at_call 42; refine hR.mono ?_; clear hR; rintro e w2 ⟨rfl, hb2⟩; have HB2 := Aside0.mk (below_then HB1.out HB1.out.size hb2); clear hb2)
    | (go_at_call 40; refine (alive_calls w2).mono ?_; rintro e w3 ⟨rfl, hb3⟩; have HB3 := Aside0.mk (below_then HB2.out HB2.out.size hb3); clear hb3))
  go_ret
  exact ⟨by simp, HB3.out⟩

theorem wrong8_of {wd : Nat} (h8 : wd ≤ 8) {l : List Int} (h : wrongS wd l = 0) : wrongS 8 l = 0 := by
  obtain ⟨h1, h2⟩ := good_wrong h8 h
  refine wrong_ok h1 fun ⟨x, hx, hc⟩ => ?_
  have := h2 x hx
  have hpw : (2 : Int) ^ wd ≤ 256 := pow_le_8 wd h8
  rw [shr8] at hc
  omega
theorem rwrong_zero {width : Int} {l : List Int} (h : rwrongS width l = 0) : ∃ wd : Nat, width = wd ∧ wd ≤ 8 ∧ wrongS wd l = 0 := by
  unfold rwrongS at h
  by_cases hw : width < 0 ∨ 8 < width
  · rw [if_pos hw] at h; cases h
  · rw [if_neg hw] at h
    obtain ⟨wd, rfl⟩ := Int.eq_ofNat_of_zero_le (a := width) (by omega)
    exact ⟨wd, rfl, by omega, h⟩

set_option maxHeartbeats 4000000 in
set_option maxRecDepth 100000 in
theorem serves_yes (W : World) (wd : Nat) (h8 : wd ≤ 8) (A : Option Addr) (c : Nat) (l : List Int) (h : Sl W A c l) (h0 : wrongS wd l = 0) :
    Calls Try.prog 11 #[.int .i64 (wd : Int), .slice A l.length c] W fun e w' => e = .returned (.bool true) ∧ Below W.heap.size W w' := by
  have hO := orders_calls wd A c l W h
  have H := Aside0.mk h
  have HZ : Aside0 (rwrongS wd l = 0) := ⟨by unfold rwrongS; rw [if_neg (by omega)]; exact h0⟩
  have HG := Aside0.mk (good_wrong h8 h0)
  have H80 := Aside0.mk (wrong8_of h8 h0)
  clear h h0
  obtain ⟨q, hq⟩ : ∃ q, q = l.length := ⟨_, rfl⟩
  rw [← hq] at hO ⊢
  have HQ := Aside0.mk hq
  have hq256 : q ≤ 256 := by have := HG.out.1; omega
  clear hq
  go_enter Try.func11, Try.ntmps11
  go_wp2_with (first
    | (go_at_call 41; refine hO.mono ?_; clear hO; rintro e w1 ⟨v, y, rfl, hy, hb1, hor⟩; obtain rfl : y = 0 := hy.trans HZ.out; obtain ⟨wd', ovs, rows, hwd, _, hok, hrw, hl⟩ := (hor.resolve_left (fun h => h.1 rfl)).2; (obtain rfl : wd = wd' := by omega); have HB1 := Aside0.mk hb1; have hR := rwrong_calls wd A c l w1 (H.out.below hb1); rw [HZ.out, ← HQ.out] at hR; obtain ⟨A3, c3, hv⟩ := own_slice hrw.own; subst hv; have HLL : Aside0 (rows.length ≤ 257 ∧ ovs.length = rows.length) := ⟨hl, by rw [hrw.len, List.length_map]⟩; (obtain ⟨n, hn⟩ : ∃ n, n = ovs.length := ⟨_, rfl⟩); rw [← hn] at hrw ⊢; have HN := Aside0.mk hn; have HSV := Aside0.mk (orders_serve h8 HG.out.2 hok); (obtain ⟨os, hos⟩ : ∃ os, os = rows.map (ordOf wd) := ⟨_, rfl⟩); rw [← hos] at HSV hrw; have HRW := Aside0.mk hrw; have HOS : Aside0 (os.length = n) := ⟨by rw [hos, List.length_map, hn]; exact HLL.out.2.symm⟩; clear hy hb1 hor hrw hok hwd hl hn hos)
    | (go_at_call 42; refine hR.mono ?_; clear hR; rintro e w2 ⟨rfl, hb2⟩; have HB2 := Aside0.mk (below_then HB1.out HB1.out.size hb2); have HRW2 := Aside0.mk (HRW.out.below hb2); clear hb2)
    | (go_at_call 40; refine (alive_calls w2).mono ?_; rintro e w3 ⟨rfl, hb3⟩; have HB3 := Aside0.mk (below_then HB2.out HB2.out.size hb3); have HRW3 := Aside0.mk (HRW2.out.below hb3); have hL := rleast_calls A c l w3 (H.out.below HB3.out); rw [← HQ.out] at hL; clear hb3)
    | (go_at_call 39; refine hL.mono ?_; clear hL; rintro e w4 ⟨⟨x, y, rfl, hr⟩, hb4⟩; have HB4 := Aside0.mk (below_then HB3.out HB3.out.size hb4); have HRW4 := Aside0.mk (HRW3.out.below hb4); obtain rfl : y = 0 := hr.1.trans H80.out; (obtain rfl : x = (n : Int) := by { obtain ⟨k, a, b⟩ := hr.2.2 rfl; rw [b, a.eq HSV.out.1, HOS.out] }); clear hb4 hr))
  have hn257 : n ≤ 257 := by have := HLL.out; have := HN.out; omega
  go_loopg [46] n (fun gk v46 wr => ∃ (i m : Nat), v46 = .int .i64 (i : Int) ∧ wr = w4.drewN m ∧ Aside0 (i + gk = n))
  case atStart => exact ⟨0, 0, rfl, (World.drewN_zero _).symm, ⟨by omega⟩⟩
  case round =>
    obtain ⟨i, m, rfl, rfl, HI⟩ := hrel
    by_cases hi : i < n
    · have hid : decide (i < n) = true := decide_eq_true hi
      have hii : (i : Int) < (n : Int) := by omega
      have hio : i < os.length := by rw [HOS.out]; exact hi
      obtain ⟨ad, Ai, ci, rfl, hcell0, hsl⟩ := tup_at HRW4.out.C.2.2 i hio
      have hof := HSV.out.2.1 _ (List.getElem_mem hio)
      have hcell : (w4.drewN m).cell? (ad.add i) = some (.slice Ai wd ci) := by rw [← hof.1]; exact hcell0
      have hRi := rright_calls Ai ci os[i] (w4.drewN m) (hsl.drewN m) (by rw [hof.1]; omega)
      rw [hof.1, decide_eq_true hof.2] at hRi
      have HIL := Aside0.mk hi
      clear hcell0 hsl hof hi
      go_wp2_with (first
        | (go_at_call 43; refine hRi.mono ?_; clear hRi; rintro e w5 ⟨rfl, ⟨k, rfl⟩⟩))
      obtain ⟨g2, hg2⟩ : ∃ g2, g2 = gk - 1 := ⟨_, rfl⟩
      go_roundg g2
      case measure => have := HI.out; have := HIL.out; omega
      case rel => exact ⟨i + 1, _, by go_num, rfl, ⟨by have := HI.out; have := HIL.out; omega⟩⟩
    · have hid : decide (i < n) = false := decide_eq_false hi
      clear hi
      go_wp2_with fail
      clear hid
      go_loopg [62] q (fun gk v62 wr => ∃ (i m : Nat), v62 = .int .i64 (i : Int) ∧ wr = w4.drewN m ∧ Aside0 (i + gk = q))
      case atStart => exact ⟨0, _, rfl, rfl, ⟨by omega⟩⟩
      case round =>
        obtain ⟨i, m, rfl, rfl, HI⟩ := hrel
        by_cases hi : i < q
        · have hid : decide (i < q) = true := decide_eq_true hi
          have hii : (i : Int) < (q : Int) := by omega
          have hil : i < l.length := by rw [← HQ.out]; exact hi
          obtain ⟨ad, rfl, hcell0⟩ := sl_cells (H.out.below HB4.out) i hil
          have hsv := HSV.out.2.2 _ (List.getElem_mem hil)
          obtain ⟨s, hs⟩ : ∃ s, s = l[i] := ⟨_, rfl⟩
          rw [← hs] at hcell0 hsv
          have hcell : (w4.drewN m).cell? (ad.add i) = some (.int .i64 s) := hcell0
          have hP := rpick_own (HRW4.out.below (pw_below_drewN (Below.refl _ _) m)) s (by rw [HOS.out]; exact hn257) 8 (fun o ho => by rw [(HSV.out.2.1 o ho).1]; exact h8) (by decide)
          rw [hsv] at hP
          have HIL := Aside0.mk hi
          clear hcell0 hsv hs hi
          go_wp2_with (first
            | (go_at_call 44; refine hP.mono ?_; clear hP; rintro e w5 ⟨rfl, ⟨k, rfl⟩⟩))
          obtain ⟨g2, hg2⟩ : ∃ g2, g2 = gk - 1 := ⟨_, rfl⟩
          go_roundg g2
          case measure => have := HI.out; have := HIL.out; omega
          case rel => exact ⟨i + 1, _, by go_num, rfl, ⟨by have := HI.out; have := HIL.out; omega⟩⟩
        · have hid : decide (i < q) = false := decide_eq_false hi
          go_wp2_with fail
          go_ret
          exact ⟨rfl, pw_below_drewN HB4.out m⟩

theorem chainServes_calls {W : World} (width : Int) (hw : (Lit.int .i64 width).wf = true) (A : Option Addr) (c : Nat) (l : List Int) (h : Sl W A c l) (W' : World) (e : W' = W) :
    Calls Try.prog 11 #[.int .i64 width, .slice A l.length c] W' fun e w' => e = .returned (.bool true) ∧ Below W.heap.size W w' := by
  subst e
  by_cases h0 : rwrongS width l = 0
  · obtain ⟨wd, rfl, h8, h1⟩ := rwrong_zero h0
    exact serves_yes W' wd h8 A c l h h1
  · exact serves_no W' width A c l h h0

end Go.Proofs.Ytcmllllbmgcnlaa.Ch

namespace Go.Proofs.Ytcmllllbmgcnlaa.Ch
open Go.RowKit Go.Deep Go.Proofs.Ytcmllllbmgcnlaa.C Go.Proofs.Ytcmllllbmgcnlaa.ChT Go.Proofs.YtcmllllbmgcnlaaW.PrintWords Go.Proofs.YtcmllllbmgcnlaaW.PrintLast Go.Proofs.YtcmllllbmgcnlaaW.PrintMore
set_option linter.unusedVariables false
set_option linter.unusedSimpArgs false

/-- What ChainMore's last lines ask. -/
theorem more_law {l : List Int} {one x y x' y' : Int} (h : LeastR l x y) (g : LeastR (l ++ [one]) x' y') : (y' = 0 → y = 0) ∧ (y' = 0 → 1 ≤ x ∧ x ≤ 1000 ∧ (x' = x ∨ x' = x + 1)) := by
  have h1 : y' = 0 → y = 0 := fun e => by
    rw [h.1]; exact wrong_snoc (one := one) (by rw [← g.1]; exact e)
  refine ⟨h1, fun e => ?_⟩
  obtain ⟨n, a, rfl⟩ := h.2.2 (h1 e)
  obtain ⟨m, b, rfl⟩ := g.2.2 e
  have h8 := ok_wrong (by rw [← g.1]; exact e : wrongS 8 (l ++ [one]) = 0)
  have hn := least_pos a
  have hle : n ≤ 257 := by
    obtain ⟨u, p, hu, hum, _, e⟩ := a
    have := le_of_nodup hu fun x hx => ((hum x).1 hx).1
    have := h8.1
    simp at this
    omega
  have := least_more h8.2 a b
  omega

theorem more_ways {x y x' y' : Int} (h : (y' = 0 → y = 0) ∧ (y' = 0 → 1 ≤ x ∧ x ≤ 1000 ∧ (x' = x ∨ x' = x + 1))) :
    ((y != 0) = true ∧ (y' != 0) = true) ∨ (y = 0 ∧ (y' != 0) = true) ∨ (y = 0 ∧ y' = 0 ∧ x' = x ∧ 1 ≤ x) ∨ (y = 0 ∧ y' = 0 ∧ x' = x + 1 ∧ 1 ≤ x ∧ wrap64 (x + 1) = x + 1 ∧ ((x + 1) == x) = false) := by
  by_cases h0 : y' = 0
  · have h1 := h.1 h0
    obtain ⟨h2, h3, h4 | h4⟩ := h.2 h0
    · exact .inr (.inr (.inl ⟨h1, h0, h4, h2⟩))
    · exact .inr (.inr (.inr ⟨h1, h0, h4, h2, by unfold wrap64; omega, beq_eq_false_iff_ne.2 (by omega)⟩))
  · by_cases h1 : y = 0
    · exact .inr (.inl ⟨h1, bne_iff_ne.2 h0⟩)
    · exact .inl ⟨bne_iff_ne.2 h1, bne_iff_ne.2 h0⟩

set_option maxHeartbeats 4000000 in
set_option maxRecDepth 100000 in
theorem chainMore_calls {W : World} (A : Option Addr) (c : Nat) (l : List Int) (h : Sl W A c l) (hf : ∀ x ∈ l, (Lit.int .i64 x).wf = true) (hz : l.length * 8 ≤ 140737488351232) (one : Int) (hw : (Lit.int .i64 one).wf = true) (W' : World) (e : W' = W) :
    Calls Try.prog 14 #[.slice A l.length c, .int .i64 one] W' fun e w' => e = .returned (.bool true) ∧ Below W.heap.size W w' := by
  subst e
  have hL := least_calls A c l W' h
  have H := Aside0.mk h
  have HZ := Aside0.mk hz
  clear h hz
  go_enter Try.func14, Try.ntmps14
  go_wp2_with (first
    | (go_at_call 38; refine hL.mono ?_; clear hL; rintro e w1 ⟨⟨x, y, rfl, hr⟩, hb1⟩; have HR := Aside0.mk hr; have HB1 := Aside0.mk hb1; clear hr hb1)
    | ((with_reducible refine gate_builtin (b := .append) (xs := #[.const (.slice none 0 0), .tmp 15]) rfl ?_); at_builtin; refine Kd.R_append_row (Value.int .i64) (0 : Int) (h1 := fun _ => rfl) (w0 := w1) w1.heap.size rfl (.const (.slice none 0 0)) (.tmp 15) 22 3 (.int .i64 0) 8 rfl Try.underlying22 info3 rfl (by omega) (.slice none 0 0) ([] : List Int) l A l.length c (fun _ => True) rfl rfl (fun _ _ => trivial) (Kd.R_nil _ _ _ _ _) (H.out.below HB1.out).C (Below.refl _ _) (Nat.le_refl _) ?aL ?_; (case aL => have := HZ.out; simp; omega); intro v5 w5 r5 b5 g5 t5; rw [List.nil_append] at r5; have R5 := Aside0.mk r5; have B5 := Aside0.mk b5; clear r5 b5 g5 t5; obtain ⟨A5, c5, e5, s5⟩ := R_sl R5.out; subst e5; clear s5)
    | ((with_reducible refine gate_builtin (b := .append) (xs := #[.tmp 16, .tmp 18]) rfl ?_); at_builtin; refine Kd.R_append (Kd.int .i64) (w0 := w1) w1.heap.size rfl (.tmp 16) (.tmp 18) 22 3 (.int .i64 0) 8 rfl Try.underlying22 info3 rfl (by decide) (by omega) (.slice A5 l.length c5) l one [.int .i64 one] (fun _ => True) (fun _ => False) rfl rfl rfl (fun _ hk => hk.elim) (fun _ _ => trivial) R5.out B5.out B5.out.size ?aL ?_; (case aL => have := HZ.out; omega); intro v6 w6 r6 b6 g6 t6; have R6 := Aside0.mk r6; have B6 := Aside0.mk b6; clear r6 b6 g6 t6; obtain ⟨A6, c6, e6, s6⟩ := R_sl R6.out; subst e6; have hM := least_calls A6 c6 (l ++ [one]) w6 s6; rw [show (l ++ [one]).length = l.length + 1 from by simp] at hM; clear s6)
    | (go_at_call 38; refine hM.mono ?_; clear hM; rintro e w2 ⟨⟨x', y', rfl, hr⟩, hb2⟩; have HM := Aside0.mk (more_law HR.out hr); have HB2 := Aside0.mk (below_then HB1.out HB1.out.size (below_then B6.out B6.out.size hb2)); clear hr hb2; rcases more_ways HM.out with ⟨h1, h2⟩ | ⟨rfl, h2⟩ | ⟨rfl, rfl, rfl, h2⟩ | ⟨rfl, rfl, rfl, h2, h3, h4⟩)
    | (go_at_call 40; refine (alive_calls w2).mono ?_; rintro e w3 ⟨rfl, hb3⟩; have HB3 := Aside0.mk (below_then HB2.out HB2.out.size hb3); clear hb3))
  all_goals (go_ret; exact ⟨by simp, HB3.out⟩)

end Go.Proofs.Ytcmllllbmgcnlaa.Ch

namespace Go.Proofs.Ytcmllllbmgcnlaa.Ch
open Go.RowKit Go.Deep Go.Proofs.Ytcmllllbmgcnlaa.C Go.Proofs.Ytcmllllbmgcnlaa.ChT Go.Proofs.YtcmllllbmgcnlaaW.PrintWords Go.Proofs.YtcmllllbmgcnlaaW.PrintLast Go.Proofs.YtcmllllbmgcnlaaW.PrintMore
set_option linter.unusedVariables false
set_option linter.unusedSimpArgs false

theorem same_calls (A0 : Option Addr) (c0 : Nat) (a : List Int) (A1 : Option Addr) (c1 : Nat) (b : List Int) (w : World) (h0 : Sl w A0 c0 a) (h1 : Sl w A1 c1 b) (hn : a.length ≤ 9223372036854775806) :
    Calls Try.prog 25 #[.slice A0 a.length c0, .slice A1 b.length c1] w fun e w' => e = .returned (.bool (decide (a = b))) ∧ Drawn0 w w' :=
  vestryref04_Same.calls (a.length + 1) _ _ a _ _ b _ w h0.C h0.le h1.C h1.le (same_is _ a b hn (by omega))

/-- A store into a row of the call's own. -/
theorem Ow.put {w : World} {base g n cap : Nat} {zs : List Int} (h : Ow w base (.slice (some ⟨g, 0, none⟩) n cap) zs) (k : Nat) (x : Int) : Ow (w.setCell ⟨g, k, none⟩ (.int .i64 x)) base (.slice (some ⟨g, 0, none⟩) n cap) (zs.set k x) ∧ w.grownBy (w.setCell ⟨g, k, none⟩ (.int .i64 x)) (some g) := by
  obtain ⟨A, c, e, _⟩ := ow_slice h
  injection e with e1 e2 e3
  subst e2
  have := Kd.R_put (ow_R h) (k : Int) x
  rw [Int.toNat_natCast] at this
  refine ⟨?_, this.2⟩
  have h2 := Kd.own_of_R this.1
  exact h2

/-- .. beside others. -/
theorem Rw.put {w : World} {base g m cap : Nat} {v : Value} {rvs : List Value} {os : List (List Int)} (h : Rw w base v rvs os) (i : Nat) (hi : i < rvs.length) (ho : i < os.length) (e : rvs[i] = .slice (some ⟨g, 0, none⟩) m cap) (k : Nat) (x : Int) :
    Rw (w.setCell ⟨g, k, none⟩ (.int .i64 x)) base v rvs (os.set i (os[i].set k x)) := by
  have hi0 := h.els i hi ho
  rw [e] at hi0
  obtain ⟨h1, h2⟩ := hi0.put k x
  have hb : rvs[i].ownBlock = some g := by rw [e]; rfl
  refine ⟨own_other h.own h2 ?_, by simp [h.len], fun j h3 h4 => ?_, h.apart⟩
  · have := own_type_ne h.own (h.els i hi ho) (by decide)
    rwa [hb] at this
  · by_cases hj : j = i
    · subst hj
      rw [List.getElem_set_self, e]; exact h1
    · rw [List.getElem_set_ne (Ne.symm hj)]
      refine own_other (h.els j h3 (by simpa using h4)) h2 ?_
      rw [← hb]
      rcases Nat.lt_or_gt_of_ne hj with hlt | hlt
      · exact ne_other (ne_symm (List.pairwise_iff_getElem.1 h.apart j i h3 hi hlt))
      · exact ne_other (List.pairwise_iff_getElem.1 h.apart i j hi h3 hlt)

theorem Rw.cellv {w : World} {base n c : Nat} {ad : Addr} {rvs : List Value} {os : List (List Int)} (h : Rw w base (.slice (some ad) n c) rvs os) (i : Nat) (hr : i < rvs.length) : w.cell? (ad.add i) = some rvs[i] := by
  obtain ⟨g, cap, cur, e, hg, hh, h1, h2, h3, h4⟩ := h.own.2.resolve_left (fun h => by cases h.1)
  injection e with e1 e2 e3
  injection e1 with e1
  subst e1
  rw [add_plain, cell_of_row w g i cur _ (0, 0) hh]
  rw [Nat.mul_one] at h4
  have h7 : (cur.toList.take rvs.length)[i]? = some rvs[i] := by rw [h4]; exact List.getElem?_eq_getElem hr
  rwa [List.getElem?_take_of_lt hr, Array.getElem?_toList] at h7
theorem Rw.some_ {w : World} {base n c : Nat} {A : Option Addr} {rvs : List Value} {os : List (List Int)} (h : Rw w base (.slice A n c) rvs os) (i : Nat) (hr : i < rvs.length) : ∃ ad, A = some ad := by
  rcases h.own.2 with ⟨_, h0⟩ | ⟨g, cap, cur, e, _⟩
  · omega
  · injection e with e1; exact ⟨_, e1⟩
theorem ow_put_at {w : World} {base m cap : Nat} {A : Option Addr} {zs : List Int} (h : Ow w base (.slice A m cap) zs) (k : Nat) (hk : k < zs.length) : ∃ (g : Nat) (z : Int), A = some ⟨g, 0, none⟩ ∧ base ≤ g ∧ w.cell? ⟨g, k, none⟩ = some (.int .i64 z) ∧ w.frozen? ⟨g, k, none⟩ = false := by
  obtain ⟨g, cap', e, hg, _, _⟩ := Kd.R_form (ow_R h) (by omega)
  have hm : m = zs.length := by injection e
  subst hm
  injection e with e1 e2 e3
  subst e1
  obtain ⟨h1, h2⟩ := Kd.R_cell (0 : Int) (ow_R h) (k : Int) (by omega) (by omega)
  rw [Int.toNat_natCast] at h1 h2
  exact ⟨g, _, rfl, hg, h1, h2⟩

set_option maxHeartbeats 4000000 in
set_option maxRecDepth 100000 in
theorem own_no (W : World) (width : Int) (A : Option Addr) (c : Nat) (l : List Int) (h : Sl W A c l) (hz : l.length * 8 ≤ 140737488351232) (h0 : rwrongS width l ≠ 0) :
    Calls Try.prog 15 #[.int .i64 width, .slice A l.length c] W fun e w' => e = .returned (.bool true) ∧ Below W.heap.size W w' := by
  have H := Aside0.mk h
  have HZ := Aside0.mk hz
  obtain ⟨z, hz⟩ : ∃ z, z = rwrongS width l := ⟨_, rfl⟩
  rw [← hz] at h0
  have hzd : (z == 0) = false := beq_eq_false_iff_ne.2 h0
  have HY := Aside0.mk (And.intro hz h0)
  obtain ⟨q, hq⟩ : ∃ q, q = l.length := ⟨_, rfl⟩
  rw [← hq]
  have HQ := Aside0.mk hq
  clear h hz h0 hq
  go_enter Try.func15, Try.ntmps15
  go_wp2_with (first
    | ((with_reducible refine gate_builtin (b := .append) (xs := #[.const (.slice none 0 0), .tmp 16]) rfl ?_); at_builtin; refine Kd.R_append_row (Value.int .i64) (0 : Int) (h1 := fun _ => rfl) (w0 := W) W.heap.size rfl (.const (.slice none 0 0)) (.tmp 16) 22 3 (.int .i64 0) 8 rfl Try.underlying22 info3 rfl (by omega) (.slice none 0 0) ([] : List Int) l A q c (fun _ => True) rfl rfl (fun _ _ => trivial) (Kd.R_nil _ _ _ _ _) ?aC (Below.refl _ _) (Nat.le_refl _) ?aL ?_; (case aC => rw [HQ.out]; exact H.out.C); (case aL => have := HZ.out; rw [HQ.out]; simp; omega); intro v5 w5 r5 b5 g5 t5; rw [List.nil_append] at r5; have B5 := Aside0.mk b5; obtain ⟨A5, c5, e5, s5⟩ := R_sl r5; subst e5; have S5 := Aside0.mk s5; have hO := orders_calls width A5 c5 l w5 s5; rw [← HQ.out] at hO ⊢; clear r5 b5 g5 t5 s5)
    | (go_at_call 41; refine hO.mono ?_; clear hO; rintro e w1 ⟨v, y, rfl, hy, hb1, hor⟩; obtain rfl : y = z := hy.trans HY.out.1.symm; obtain rfl : v = .slice none 0 0 := (hor.resolve_right fun h => HY.out.2 h.1).2; have B6 := Aside0.mk (below_then B5.out B5.out.size hb1); have S6 := Aside0.mk (S5.out.below hb1); have hS := same_calls A5 c5 l A c l w1 S6.out (H.out.below B6.out) (by have := HZ.out; omega); rw [decide_eq_true rfl, ← HQ.out] at hS; clear hy hb1 hor)
    | (go_at_call 25; refine hS.mono ?_; clear hS; rintro e w2 ⟨rfl, ⟨m, rfl⟩⟩; have hO := orders_calls width A5 c5 l (w1.drewN m) (S6.out.drewN m); rw [← HQ.out] at hO))
  have HO2 := Aside0.mk hO
  have B7 : Aside0 (Below W.heap.size W (w1.drewN m)) := ⟨pw_below_drewN B6.out m⟩
  clear hO hz
  generalize w1.drewN m = w2 at HO2 B7 ⊢
  go_loopg [30] 0 (fun gk v30 wr => v30 = .int .i64 0 ∧ wr = w2)
  case atStart => exact ⟨rfl, rfl⟩
  case round =>
    obtain ⟨rfl, rfl⟩ := hrel
    go_wp2_with (first
      | (go_at_call 41; refine (HO2.out).mono ?_; rintro e w3 ⟨v, y', rfl, hy, hb3, hor⟩; obtain rfl : y' = y := hy.trans HY.out.1.symm; obtain rfl : v = .slice none 0 0 := (hor.resolve_right fun h => HY.out.2 h.1).2; have B8 := Aside0.mk (below_then B7.out B7.out.size hb3); clear hy hb3 hor))
    go_loopg [57] q (fun gk v57 wr => ∃ (i m : Nat), v57 = .int .i64 (i : Int) ∧ wr = w3.drewN m ∧ Aside0 (i + gk = q))
    case atStart => exact ⟨0, 0, rfl, (World.drewN_zero _).symm, ⟨by omega⟩⟩
    case round =>
      obtain ⟨i, m, rfl, rfl, HI⟩ := hrel
      by_cases hi : i < q
      · have hid : decide (i < q) = true := decide_eq_true hi
        have hii : (i : Int) < (q : Int) := by omega
        have hil : i < l.length := by rw [← HQ.out]; exact hi
        obtain ⟨ad, rfl, hcell0⟩ := sl_cells (H.out.below B8.out) i hil
        obtain ⟨s, hs⟩ : ∃ s, s = l[i] := ⟨_, rfl⟩
        rw [← hs] at hcell0
        have hcell : (w3.drewN m).cell? (ad.add i) = some (.int .i64 s) := hcell0
        have hP := rpick_own (Rw.nil (w3.drewN m) 0) s (by simp) 0 (by simp) (by decide)
        have HIL := Aside0.mk hi
        clear hcell0 hs hi
        go_wp2_with (first
          | (go_at_call 44; refine hP.mono ?_; clear hP; rintro e w5 ⟨rfl, ⟨k, rfl⟩⟩))
        obtain ⟨g2, hg2⟩ : ∃ g2, g2 = gk - 1 := ⟨_, rfl⟩
        go_roundg g2
        case measure => have := HI.out; have := HIL.out; omega
        case rel => exact ⟨i + 1, _, by rw [wrap_nat _ (by have := HIL.out; have := HQ.out; have := HZ.out; omega)], rfl, ⟨by have := HI.out; have := HIL.out; omega⟩⟩
      · have hid : decide (i < q) = false := decide_eq_false hi
        have HA := Aside0.mk (alive_calls (w3.drewN m))
        go_wp2_with (first
          | (go_at_call 40; refine (HA.out).mono ?_; rintro e w6 ⟨rfl, hb6⟩; have B9 := Aside0.mk (below_then (pw_below_drewN B8.out m) (pw_below_drewN B8.out m).size hb6); clear hb6))
        go_ret
        exact ⟨by simp, B9.out⟩

set_option maxHeartbeats 8000000 in
set_option maxRecDepth 100000 in
theorem own_yes (W : World) (wd : Nat) (h8 : wd ≤ 8) (A : Option Addr) (c : Nat) (l : List Int) (h : Sl W A c l) (h0 : wrongS wd l = 0) :
    Calls Try.prog 15 #[.int .i64 (wd : Int), .slice A l.length c] W fun e w' => e = .returned (.bool true) ∧ Below W.heap.size W w' := by
  have H := Aside0.mk h
  have HZ : Aside0 (rwrongS wd l = 0) := ⟨by unfold rwrongS; rw [if_neg (by omega)]; exact h0⟩
  have HG := Aside0.mk (good_wrong h8 h0)
  obtain ⟨q, hq⟩ : ∃ q, q = l.length := ⟨_, rfl⟩
  rw [← hq]
  have HQ := Aside0.mk hq
  have hq256 : q ≤ 256 := by have := HG.out.1; omega
  clear h h0 hq
  go_enter Try.func15, Try.ntmps15
  go_wp2_with (first
    | ((with_reducible refine gate_builtin (b := .append) (xs := #[.const (.slice none 0 0), .tmp 16]) rfl ?_); at_builtin; refine Kd.R_append_row (Value.int .i64) (0 : Int) (h1 := fun _ => rfl) (w0 := W) W.heap.size rfl (.const (.slice none 0 0)) (.tmp 16) 22 3 (.int .i64 0) 8 rfl Try.underlying22 info3 rfl (by omega) (.slice none 0 0) ([] : List Int) l A q c (fun _ => True) rfl rfl (fun _ _ => trivial) (Kd.R_nil _ _ _ _ _) ?aC (Below.refl _ _) (Nat.le_refl _) ?aL ?_; (case aC => rw [HQ.out]; exact H.out.C); (case aL => simp; omega); intro v5 w5 r5 b5 g5 t5; rw [List.nil_append] at r5; have B5 := Aside0.mk b5; obtain ⟨A5, c5, e5, s5⟩ := R_sl r5; subst e5; have S5 := Aside0.mk s5; have hO := orders_calls wd A5 c5 l w5 s5; rw [← HQ.out] at hO ⊢; clear r5 b5 g5 t5 s5)
    | (go_at_call 41; refine hO.mono ?_; clear hO; rintro e w1 ⟨v, y, rfl, hy, hb1, hor⟩; obtain rfl : y = 0 := hy.trans HZ.out; obtain ⟨wd', ovs, rows, hwd, _, hok, hrw, hl⟩ := (hor.resolve_left (fun h => h.1 rfl)).2; (obtain rfl : wd = wd' := by omega); have BO := Aside0.mk hb1; have B6 := Aside0.mk (below_then B5.out B5.out.size hb1); have S6 := Aside0.mk (S5.out.below hb1); have hS := same_calls A5 c5 l A c l w1 S6.out (H.out.below B6.out) (by have := HQ.out; omega); rw [decide_eq_true rfl, ← HQ.out] at hS; obtain ⟨A3, c3, hv⟩ := own_slice hrw.own; subst hv; have HLL : Aside0 (rows.length ≤ 257 ∧ ovs.length = rows.length) := ⟨hl, by rw [hrw.len, List.length_map]⟩; (obtain ⟨n, hn⟩ : ∃ n, n = ovs.length := ⟨_, rfl⟩); rw [← hn] at hrw ⊢; have HN := Aside0.mk hn; have hsv := orders_serve h8 HG.out.2 hok; (obtain ⟨os, hos⟩ : ∃ os, os = rows.map (ordOf wd) := ⟨_, rfl⟩); rw [← hos] at hsv hrw; have HRW := Aside0.mk hrw; have HOS : Aside0 (os.length = n ∧ (∀ o ∈ os, o.length = wd) ∧ LeastIs l os.length) := ⟨by rw [hos, List.length_map, hn]; exact HLL.out.2.symm, fun o ho => (hsv.2.1 o ho).1, hsv.1⟩; clear hy hb1 hor hrw hok hwd hl hn hos hsv)
    | (go_at_call 25; refine hS.mono ?_; clear hS; rintro e w2 ⟨rfl, ⟨m, rfl⟩⟩))
  have BO2 : Aside0 (Below w5.heap.size w5 (w1.drewN m)) := ⟨pw_below_drewN BO.out m⟩
  have HR2 : Aside0 (∃ os, Rw (w1.drewN m) w5.heap.size (.slice A3 n c3) ovs os ∧ os.length = n ∧ ∀ o ∈ os, o.length = wd) := ⟨os, HRW.out.below (pw_below_drewN (Below.refl _ _) m), HOS.out.1, HOS.out.2.1⟩
  have hn257 : n ≤ 257 := by have := HLL.out; have := HN.out; omega
  generalize w1.drewN m = w2 at BO2 HR2 ⊢
  go_loopg [30] n (fun gk v30 wr => ∃ i : Nat, v30 = .int .i64 (i : Int) ∧ Aside0 (i + gk = n) ∧ Aside0 (Below w5.heap.size w5 wr) ∧ Aside0 (∃ os, Rw wr w5.heap.size (.slice A3 n c3) ovs os ∧ os.length = n ∧ ∀ o ∈ os, o.length = wd))
  case atStart => exact ⟨0, rfl, ⟨by omega⟩, BO2, HR2⟩
  case round =>
    obtain ⟨i, rfl, HI, HB, HRR⟩ := hrel
    by_cases hi : i < n
    · have hid : decide (i < n) = true := decide_eq_true hi
      have hii : (i : Int) < (n : Int) := by omega
      have HIL := Aside0.mk hi
      obtain ⟨os1, hrw1, hl1, hw1⟩ := HRR.out
      have hio : i < os1.length := by rw [hl1]; exact hi
      have hr : i < ovs.length := by rw [hrw1.len]; exact hio
      obtain ⟨ad, rfl⟩ := hrw1.some_ i hr
      have hcell := hrw1.cellv i hr
      obtain ⟨Ai, ci, hrow, _⟩ := ow_slice (hrw1.els i hr hio)
      rw [hw1 _ (List.getElem_mem hio)] at hrow
      rw [hrow] at hcell
      have HROW := Aside0.mk (And.intro hr hrow)
      have HRR2 : Aside0 (∃ os, Rw wr w5.heap.size (.slice (some ad) n c3) ovs os ∧ os.length = n ∧ ∀ o ∈ os, o.length = wd) := HRR
      clear hi
      go_wp2_with fail
      clear hcell hii hid
      go_loopg [38] wd (fun gk v38 wr => ∃ k : Nat, v38 = .int .i64 (k : Int) ∧ Aside0 (k + gk = wd) ∧ Aside0 (Below w5.heap.size w5 wr) ∧ Aside0 (∃ os, Rw wr w5.heap.size (.slice (some ad) n c3) ovs os ∧ os.length = n ∧ ∀ o ∈ os, o.length = wd))
      case atStart => exact ⟨0, rfl, ⟨by omega⟩, HB, HRR2⟩
      case round =>
        obtain ⟨k, rfl, HK, HB3, HR3⟩ := hrel
        by_cases hk : k < wd
        · have hkd : decide (k < wd) = true := decide_eq_true hk
          have hki : (k : Int) < (wd : Int) := by omega
          have hin : (i : Int) < (n : Int) := by have := HIL.out; omega
          obtain ⟨os3, hrw3, hl3, hw3⟩ := HR3.out
          have hio3 : i < os3.length := by rw [hl3]; exact HIL.out
          have hcell3 := hrw3.cellv i hr
          rw [hrow] at hcell3
          have how := hrw3.els i hr hio3
          rw [hrow] at how
          have hlen3 := hw3 _ (List.getElem_mem hio3)
          obtain ⟨g, z3, rfl, hg, hc3, hf3⟩ := ow_put_at how k (by rw [hlen3]; exact hk)
          have HPUT : Aside0 (∃ os, Rw (wr.setCell ⟨g, k, none⟩ (.int .i64 (-1))) w5.heap.size (.slice (some ad) n c3) ovs os ∧ os.length = n ∧ ∀ o ∈ os, o.length = wd) := ⟨_, hrw3.put i hr hio3 hrow k (-1), by simp [hl3], fun o ho => by
            rcases List.mem_or_eq_of_mem_set ho with ho | ho
            · exact hw3 o ho
            · rw [ho]; simp [hlen3]⟩
          have HB4 : Aside0 (Below w5.heap.size w5 (wr.setCell ⟨g, k, none⟩ (.int .i64 (-1)))) := ⟨HB3.out.setCell hg _⟩
          have HKL := Aside0.mk hk
          clear hrw3 hl3 hw3 how hlen3 hg hk
          go_wp2_with fail
          obtain ⟨g2, hg2⟩ : ∃ g2, g2 = gk - 1 := ⟨_, rfl⟩
          go_roundg g2
          case measure => have := HK.out; have := HKL.out; omega
          case rel => exact ⟨k + 1, by (have := HKL.out; go_num), ⟨by have := HK.out; have := HKL.out; omega⟩, HB4, HPUT⟩
        · have hkd : decide (k < wd) = false := decide_eq_false hk
          go_wp2_with fail
          obtain ⟨g2, hg2⟩ : ∃ g2, g2 = n - (i + 1) := ⟨_, rfl⟩
          go_roundg g2
          case measure => have := HI.out; have := HIL.out; omega
          case rel => exact ⟨i + 1, by (have := HIL.out; go_num), ⟨by have := HI.out; have := HIL.out; omega⟩, HB3, HR3⟩
    · have hid : decide (i < n) = false := decide_eq_false hi
      have B7 : Aside0 (Below W.heap.size W wr) := ⟨below_then B5.out B5.out.size HB.out⟩
      have hO := orders_calls wd A5 c5 l wr (S5.out.below HB.out)
      rw [← HQ.out] at hO
      have HO2 := Aside0.mk hO
      clear hO hi
      go_wp2_with (first
        | (go_at_call 41; refine (HO2.out).mono ?_; rintro e w3 ⟨v, y, rfl, hy, hb3, hor⟩; obtain rfl : y = 0 := hy.trans HZ.out; obtain ⟨wd', ovs2, rows2, hwd, _, hok, hrw, hl⟩ := (hor.resolve_left (fun h => h.1 rfl)).2; (obtain rfl : wd = wd' := by omega); have B8 := Aside0.mk (below_then B7.out B7.out.size hb3); have HSV := Aside0.mk (orders_serve h8 HG.out.2 hok); obtain ⟨A6, c6, hv⟩ := own_slice hrw.own; subst hv; (have hn2 : ovs2.length = n := by { rw [hrw.len, HSV.out.1.eq HOS.out.2.2, HOS.out.1] }); rw [hn2] at hrw ⊢; (obtain ⟨os2, hos2⟩ : ∃ os2, os2 = rows2.map (ordOf wd) := ⟨_, rfl⟩); rw [← hos2] at hrw HSV; have HRW2 := Aside0.mk hrw; have HL2 : Aside0 (os2.length ≤ 257) := ⟨by rw [hos2, List.length_map]; exact hl⟩; clear hy hb3 hor hok hrw hwd hl hn2 hos2))
      go_loopg [57] q (fun gk v57 wr => ∃ (i m : Nat), v57 = .int .i64 (i : Int) ∧ wr = w3.drewN m ∧ Aside0 (i + gk = q))
      case atStart => exact ⟨0, 0, rfl, (World.drewN_zero _).symm, ⟨by omega⟩⟩
      case round =>
        obtain ⟨i, m, rfl, rfl, HI⟩ := hrel
        by_cases hi : i < q
        · have hid : decide (i < q) = true := decide_eq_true hi
          have hii : (i : Int) < (q : Int) := by omega
          have hil : i < l.length := by rw [← HQ.out]; exact hi
          obtain ⟨ad, rfl, hcell0⟩ := sl_cells (H.out.below B8.out) i hil
          have hsv := HSV.out.2.2 _ (List.getElem_mem hil)
          obtain ⟨s, hs⟩ : ∃ s, s = l[i] := ⟨_, rfl⟩
          rw [← hs] at hcell0 hsv
          have hcell : (w3.drewN m).cell? (ad.add i) = some (.int .i64 s) := hcell0
          have hP := rpick_own (HRW2.out.below (pw_below_drewN (Below.refl _ _) m)) s HL2.out 8 (fun o ho => by rw [(HSV.out.2.1 o ho).1]; exact h8) (by decide)
          rw [hsv] at hP
          have HIL := Aside0.mk hi
          clear hcell0 hsv hs hi
          go_wp2_with (first
            | (go_at_call 44; refine hP.mono ?_; clear hP; rintro e w8 ⟨rfl, ⟨k, rfl⟩⟩))
          obtain ⟨g2, hg2⟩ : ∃ g2, g2 = gk - 1 := ⟨_, rfl⟩
          go_roundg g2
          case measure => have := HI.out; have := HIL.out; omega
          case rel => exact ⟨i + 1, _, by (have := HIL.out; go_num), rfl, ⟨by have := HI.out; have := HIL.out; omega⟩⟩
        · have hid : decide (i < q) = false := decide_eq_false hi
          have HA := Aside0.mk (alive_calls (w3.drewN m))
          go_wp2_with (first
            | (go_at_call 40; refine (HA.out).mono ?_; rintro e w8 ⟨rfl, hb6⟩; have B9 := Aside0.mk (below_then (pw_below_drewN B8.out m) (pw_below_drewN B8.out m).size hb6); clear hb6))
          go_ret
          exact ⟨by simp, B9.out⟩

theorem chainOwn_calls {W : World} (width : Int) (hw : (Lit.int .i64 width).wf = true) (A : Option Addr) (c : Nat) (l : List Int) (h : Sl W A c l) (hf : ∀ x ∈ l, (Lit.int .i64 x).wf = true) (hz : l.length * 8 ≤ 140737488351232) (W' : World) (e : W' = W) :
    Calls Try.prog 15 #[.int .i64 width, .slice A l.length c] W' fun e w' => e = .returned (.bool true) ∧ Below W.heap.size W w' := by
  subst e
  by_cases h0 : rwrongS width l = 0
  · obtain ⟨wd, rfl, h8, h1⟩ := rwrong_zero h0
    exact own_yes W' wd h8 A c l h h1
  · exact own_no W' width A c l h hz h0

end Go.Proofs.Ytcmllllbmgcnlaa.Ch

namespace Go.Proofs.Ytcmllllbmgcnlaa.Ch
open Go.RowKit Go.Deep Go.Lib Go.Proofs.Ytcmllllbmgcnlaa.C Go.Proofs.Ytcmllllbmgcnlaa.ChT Go.Proofs.YtcmllllbmgcnlaaW.PrintWords Go.Proofs.YtcmllllbmgcnlaaW.PrintLast Go.Proofs.YtcmllllbmgcnlaaW.PrintMore
set_option linter.unusedVariables false
set_option linter.unusedSimpArgs false

/-- The bits of n below i. -/
def pcTo (n : Nat) : Nat → Int
  | 0 => 0
  | i + 1 => pcTo n i + Go.bits .and .i64 ((n : Int) / 2 ^ i) 1
set_option maxRecDepth 100000 in
theorem pc_all : ∀ n : _root_.Fin 256, pcTo n.val 8 = popN n.val ∧ ∀ i : _root_.Fin 8, 0 ≤ pcTo n.val i.val ∧ pcTo n.val i.val ≤ 8 ∧ 0 ≤ Go.bits .and .i64 ((n.val : Int) / 2 ^ i.val) 1 ∧ Go.bits .and .i64 ((n.val : Int) / 2 ^ i.val) 1 ≤ 1 := by decide +kernel
theorem pcTo_8 (n : Nat) (h : n < 256) : pcTo n 8 = popN n := (pc_all ⟨n, h⟩).1
theorem pcTo_wrap (n i : Nat) (h : n < 256) (hi : i < 8) : wrap64 (pcTo n i + Go.bits .and .i64 ((n : Int) / 2 ^ i) 1) = pcTo n (i + 1) := by
  have := (pc_all ⟨n, h⟩).2 ⟨i, hi⟩
  show _ = pcTo n i + Go.bits .and .i64 ((n : Int) / 2 ^ i) 1
  have h1 : 0 ≤ pcTo n i := this.1
  have h2 : pcTo n i ≤ 8 := this.2.1
  have h3 : 0 ≤ Go.bits .and .i64 ((n : Int) / 2 ^ i) 1 := this.2.2.1
  have h4 : Go.bits .and .i64 ((n : Int) / 2 ^ i) 1 ≤ 1 := this.2.2.2
  unfold wrap64; omega

/-- The numbers below n with k bits, at most 40. -/
def apN (k n : Nat) : List Nat := ((List.range n).filter fun n => decide (popN n = k)).take 40
def apI (k n : Nat) : List Int := (apN k n).map fun n : Nat => (n : Int)
theorem apN_step (k n : Nat) : apN k (n + 1) = if popN n = k ∧ (apN k n).length < 40 then apN k n ++ [n] else apN k n := by
  unfold apN
  obtain ⟨L, hL⟩ : ∃ L, L = (List.range n).filter fun n => decide (popN n = k) := ⟨_, rfl⟩
  rw [List.range_succ, List.filter_append, ← hL]
  by_cases h : popN n = k
  · have e : List.filter (fun n => decide (popN n = k)) [n] = [n] := by simp [h]
    rw [e]
    by_cases hl : L.length < 40
    · rw [List.take_of_length_le (by simp; omega), List.take_of_length_le (by omega), if_pos ⟨h, hl⟩]
    · rw [List.take_append_of_le_length (by omega), if_neg (fun hc => hl (by have := hc.2; simp at this; omega))]
  · have e : List.filter (fun n => decide (popN n = k)) [n] = [] := by simp [h]
    rw [e, List.append_nil, if_neg fun hc => h hc.1]
theorem apI_len (k n : Nat) : (apI k n).length = (apN k n).length := by simp [apI]
theorem apI_yes {k n : Nat} (h : popN n = k) (hl : (apI k n).length < 40) : apI k (n + 1) = apI k n ++ [(n : Int)] := by
  rw [apI_len] at hl
  unfold apI
  rw [apN_step, if_pos ⟨h, hl⟩]; simp
theorem apI_no {k n : Nat} (h : popN n ≠ k ∨ ¬ (apI k n).length < 40) : apI k (n + 1) = apI k n := by
  rw [apI_len] at h
  unfold apI
  rw [apN_step, if_neg fun hc => h.elim (fun h => h hc.1) (fun h => h hc.2)]
theorem apI_short (k n : Nat) : (apI k n).length ≤ 40 := by rw [apI_len]; unfold apN; simp; omega

set_option maxRecDepth 100000 in
theorem ap_all : ∀ k : _root_.Fin 7, (apN (k.val + 1) 256).Nodup ∧ (∀ x ∈ apN (k.val + 1) 256, x ≠ 0 ∧ x < 256) ∧ (∀ x ∈ apN (k.val + 1) 256, ∀ y ∈ apN (k.val + 1) 256, x ≠ y → x &&& y ≠ x) ∧ 1 ≤ (apN (k.val + 1) 256).length := by decide +kernel

theorem ap_least (k : Nat) (hk : k < 7) : LeastIs (apI (k + 1) 256) (apI (k + 1) 256).length ∧ wrongS 8 (apI (k + 1) 256) = 0 := by
  obtain ⟨h1, h2, h3, h4⟩ := ap_all ⟨k, hk⟩
  have h1 : (apN (k + 1) 256).Nodup := h1
  have h2 : ∀ x ∈ apN (k + 1) 256, x ≠ 0 ∧ x < 256 := h2
  have h3 : ∀ x ∈ apN (k + 1) 256, ∀ y ∈ apN (k + 1) 256, x ≠ y → x &&& y ≠ x := h3
  have h4 : 1 ≤ (apN (k + 1) 256).length := h4
  constructor
  · refine least_apart ?_ ?_ ?_ (by rw [apI_len]; exact h4)
    · exact nodup_map_on h1 fun x _ y _ e => by omega
    · intro x hx
      obtain ⟨n, hn, rfl⟩ := List.mem_map.1 hx
      have := h2 n hn
      omega
    · intro x hx y hy hne hin
      obtain ⟨n, hn, rfl⟩ := List.mem_map.1 hx
      obtain ⟨m, hm, rfl⟩ := List.mem_map.1 hy
      unfold In at hin
      rw [i64_and_nat n m (h2 n hn).2 (h2 m hm).2] at hin
      exact h3 n hn m hm (by omega) (by omega)
  · refine wrong_ok (by have := apI_short (k + 1) 256; omega) fun ⟨x, hx, hc⟩ => ?_
    obtain ⟨n, hn, rfl⟩ := List.mem_map.1 hx
    have := h2 n hn
    rw [shr8] at hc
    omega

/-- A row of growing searches, and the set that was met. -/
structure RowI (row : List Int) (m : Nat) : Prop where
  lt : m < 256
  bnd : ∀ x ∈ row, 0 ≤ x ∧ x < 256
  inn : ∀ x ∈ row, In x m
  cmp : ∀ x ∈ row, ∀ y ∈ row, In x y ∨ In y x
theorem RowI.start : RowI [] 0 := ⟨by decide, by simp, by simp, by simp⟩
theorem RowI.more {row : List Int} {m c : Nat} (h : RowI row m) (hc : c < 8) : RowI (row ++ [((m ||| 2 ^ c : Nat) : Int)]) (m ||| 2 ^ c) := by
  have hs := set_lt m h.lt c hc
  have hself : ∀ x : Int, 0 ≤ x → x < 256 → In x x := fun x a b => (in_bits a b a b).2 fun j hj => hj
  have hup : ∀ x ∈ row, In x ((m ||| 2 ^ c : Nat) : Int) := fun x hx => by
    have hb := h.bnd x hx
    refine (in_bits hb.1 hb.2 (by omega) (by omega)).2 fun j hj => ?_
    have := (in_bits hb.1 hb.2 (Int.natCast_nonneg m) (by have := h.lt; omega)).1 (h.inn x hx) j hj
    rw [Int.toNat_natCast] at this ⊢
    exact (test_set m c j).2 (.inl this)
  refine ⟨hs, fun x hx => ?_, fun x hx => ?_, fun x hx y hy => ?_⟩
  · rcases List.mem_append.1 hx with hx | hx
    · exact h.bnd x hx
    · rw [List.mem_singleton] at hx; omega
  · rcases List.mem_append.1 hx with hx | hx
    · exact hup x hx
    · rw [List.mem_singleton] at hx; rw [hx]; exact hself _ (by omega) (by omega)
  · rcases List.mem_append.1 hx with hx | hx <;> rcases List.mem_append.1 hy with hy | hy
    · exact h.cmp x hx y hy
    · rw [List.mem_singleton] at hy; subst hy; exact .inl (hup x hx)
    · rw [List.mem_singleton] at hx; subst hx; exact .inr (hup y hy)
    · rw [List.mem_singleton] at hx hy; subst hx; subst hy; exact .inl (hself _ (by omega) (by omega))
theorem RowI.least {row : List Int} {m : Nat} (h : RowI row m) (hl : row.length ≤ 20) : LeastIs row 1 ∧ wrongS 8 row = 0 :=
  ⟨sorted_nodup_row h.bnd h.cmp, wrong_ok (by omega) fun ⟨x, hx, hc⟩ => by
    have := h.bnd x hx
    rw [shr8] at hc
    omega⟩

end Go.Proofs.Ytcmllllbmgcnlaa.Ch

namespace Go.Proofs.Ytcmllllbmgcnlaa.Ch
open Go.RowKit Go.Deep Go.Lib Go.Proofs.Ytcmllllbmgcnlaa.C Go.Proofs.Ytcmllllbmgcnlaa.ChT Go.Proofs.YtcmllllbmgcnlaaW.PrintWords Go.Proofs.YtcmllllbmgcnlaaW.PrintLast Go.Proofs.YtcmllllbmgcnlaaW.PrintMore
set_option linter.unusedVariables false
set_option linter.unusedSimpArgs false

theorem shl_pow (c : Nat) (h : c < 8) : wrap64 (2 ^ c) = shl .i64 1 (c : Int) := by
  have : c = 0 ∨ c = 1 ∨ c = 2 ∨ c = 3 ∨ c = 4 ∨ c = 5 ∨ c = 6 ∨ c = 7 := by omega
  rcases this with rfl | rfl | rfl | rfl | rfl | rfl | rfl | rfl <;> decide +kernel

set_option maxHeartbeats 8000000 in
set_option maxRecDepth 100000 in
theorem apart_main (W : World) (z : Nat) (hz : z < 256) (A : Option Addr) (c : Nat) (cols : List Int) (hC : Kd.C (Kd.int .u8) W A cols.length cols) (hc : cols.length ≤ c) (h8 : ∀ x ∈ cols, 0 ≤ x ∧ x < 256) :
    Calls Try.prog 13 #[.int .u8 (z : Int), .slice A cols.length c] W fun e w' => e = .returned (.bool true) ∧ Below W.heap.size W w' := by
  have HC := Aside0.mk hC
  have HC2 := Aside0.mk (And.intro hc h8)
  clear hC hc h8
  go_enter Try.func13, Try.ntmps13
  go_wp2_with fail
  have hK : (z : Int) % 7 = ((z % 7 : Nat) : Int) := by omega
  have HK7 : Aside0 (z % 7 < 7) := ⟨by omega⟩
  rw [hK]
  clear hK
  generalize z % 7 = K at HK7 ⊢
  go_loopg [6, 22] 256 (fun gk v6 v22 wr => ∃ (n : Nat) (A6 : Option Addr) (c6 : Nat), v22 = .int .i64 (n : Int) ∧ v6 = .slice A6 (apI (K + 1) n).length c6 ∧ Aside0 (n + gk = 256) ∧ Aside0 (Ow wr W.heap.size (.slice A6 (apI (K + 1) n).length c6) (apI (K + 1) n)) ∧ Aside0 (Below W.heap.size W wr))
  case atStart => exact ⟨0, none, 0, rfl, rfl, ⟨by omega⟩, ⟨own_nil _ _ _ _⟩, ⟨Below.refl _ _⟩⟩
  case round =>
    obtain ⟨n, A6, c6, rfl, rfl, HN, HO, HB⟩ := hrel
    by_cases hn : n < 256
    · have hnd : decide ((n : Int) < 256) = true := decide_eq_true (by omega)
      have HNL := Aside0.mk hn
      clear hn
      go_wp2_with fail
      go_loopg [9, 25] 8 (fun gk v9 v25 w' => ∃ (i m : Nat), v25 = .int .i64 (i : Int) ∧ v9 = .int .i64 (pcTo n i) ∧ w' = wr.drewN m ∧ Aside0 (i + gk = 8))
      case atStart => exact ⟨0, 0, rfl, rfl, (World.drewN_zero _).symm, ⟨by omega⟩⟩
      case round =>
        obtain ⟨i, m, rfl, rfl, rfl, HI⟩ := hrel
        by_cases hi : i < 8
        · have hid : decide ((i : Int) < 8) = true := decide_eq_true (by omega)
          have HIL := Aside0.mk hi
          have hpc := pcTo_wrap n i HNL.out hi
          go_wp2_with fail
          obtain ⟨g2, hg2⟩ : ∃ g2, g2 = gk - 1 := ⟨_, rfl⟩
          go_roundg g2
          case measure => have := HI.out; have := HIL.out; omega
          case rel => exact ⟨i + 1, _, by (have := HIL.out; go_num), by rw [hpc], rfl, ⟨by have := HI.out; have := HIL.out; omega⟩⟩
        · have hid : decide ((i : Int) < 8) = false := decide_eq_false (by omega)
          have hi8 : i = 8 := by have := HI.out; omega
          have hpc := pcTo_8 n HNL.out
          rw [hi8, hpc]
          clear hi hi8 hpc
          have HO2 : Aside0 (Ow (wr.drewN m) W.heap.size (.slice A6 (apI (K + 1) n).length c6) (apI (K + 1) n)) := ⟨pw_own_below HO.out (pw_below_drewN (Below.refl _ _) m)⟩
          have HB2 : Aside0 (Below W.heap.size W (wr.drewN m)) := ⟨pw_below_drewN HB.out m⟩
          have HLN : Aside0 ((apI (K + 1) n).length ≤ 40) := ⟨apI_short _ _⟩
          generalize wr.drewN m = w2 at HO2 HB2 ⊢
          by_cases hp : popN n = K + 1
          · have hpd : ((popN n : Int) == (K : Int) + 1) = true := beq_iff_eq.2 (by omega)
            have HP := Aside0.mk hp
            clear hp
            by_cases hl : (apI (K + 1) n).length < 40
            · have hld : decide (((apI (K + 1) n).length : Int) < 40) = true := decide_eq_true (by omega)
              have HL := Aside0.mk hl
              clear hl
              go_wp2_with (first
                | ((with_reducible refine gate_builtin (b := .append) (xs := #[.tmp 43, .tmp 45]) rfl ?_); at_builtin; refine print_append (w0 := W) W.heap.size rfl (.tmp 43) (.tmp 45) 22 3 (.int .i64 0) 8 rfl Try.underlying22 info3 rfl (by decide) (.slice A6 (apI (K + 1) n).length c6) ((apI (K + 1) n).map (Value.int .i64)) (.int .i64 (n : Int)) rfl rfl rfl ?aO HB2.out HB2.out.size ?aL ?_; (case aO => rw [List.length_map]; exact HO2.out); (case aL => rw [List.length_map]; have := HLN.out; omega); intro v7 w7 q7 b7 g7 t7; have HO7 : Aside0 (Ow w7 W.heap.size v7 (apI (K + 1) (n + 1))) := ⟨by rw [apI_yes HP.out HL.out]; unfold Ow; simpa using q7⟩; obtain ⟨A8, c8, hv7, _⟩ := ow_slice HO7.out; subst hv7; have HB7 := Aside0.mk b7; clear q7 b7 g7 t7))
              obtain ⟨g2, hg2⟩ : ∃ g2, g2 = 256 - (n + 1) := ⟨_, rfl⟩
              go_roundg g2
              case measure => have := HN.out; have := HNL.out; omega
              case rel => exact ⟨n + 1, A8, c8, by rw [wrap_nat _ (by have := HNL.out; omega)], rfl, ⟨by have := HN.out; have := HNL.out; omega⟩, HO7, HB7⟩
            · have hld : decide (((apI (K + 1) n).length : Int) < 40) = false := decide_eq_false (by omega)
              have HL := Aside0.mk hl
              clear hl
              go_wp2_with fail
              obtain ⟨g2, hg2⟩ : ∃ g2, g2 = 256 - (n + 1) := ⟨_, rfl⟩
              go_roundg g2
              case measure => have := HN.out; have := HNL.out; omega
              case rel => exact ⟨n + 1, A6, c6, by rw [wrap_nat _ (by have := HNL.out; omega)], by rw [apI_no (.inr HL.out)], ⟨by have := HN.out; have := HNL.out; omega⟩, ⟨by rw [apI_no (.inr HL.out)]; exact HO2.out⟩, HB2⟩
          · have hpd : ((popN n : Int) == (K : Int) + 1) = false := beq_eq_false_iff_ne.2 (by omega)
            have HP := Aside0.mk hp
            clear hp
            go_wp2_with fail
            obtain ⟨g2, hg2⟩ : ∃ g2, g2 = 256 - (n + 1) := ⟨_, rfl⟩
            go_roundg g2
            case measure => have := HN.out; have := HNL.out; omega
            case rel => exact ⟨n + 1, A6, c6, by rw [wrap_nat _ (by have := HNL.out; omega)], by rw [apI_no (.inl HP.out)], ⟨by have := HN.out; have := HNL.out; omega⟩, ⟨by rw [apI_no (.inl HP.out)]; exact HO2.out⟩, HB2⟩
    · have hnd : decide ((n : Int) < 256) = false := decide_eq_false (by omega)
      have hn256 : n = 256 := by have := HN.out; omega
      rw [hn256] at HO ⊢
      clear hn256 hn
      obtain ⟨L, hL⟩ : ∃ L, L = apI (K + 1) 256 := ⟨_, rfl⟩
      have HLE := Aside0.mk (ap_least K HK7.out)
      rw [← hL] at HO HLE ⊢
      have HLS : Aside0 (L.length ≤ 40) := ⟨by rw [hL]; exact apI_short _ _⟩
      clear hL
      have hcd : (cols.length : Int) ≤ c := by have := HC2.out.1; omega
      obtain ⟨q, hq⟩ : ∃ q, q = min cols.length 20 := ⟨_, rfl⟩
      have hmin : min (cols.length : Int) 20 = (q : Int) := by omega
      have hmax : max (q : Int) 0 = (q : Int) := by omega
      have HQ : Aside0 (q ≤ cols.length ∧ q ≤ 20) := ⟨by omega⟩
      have hq20 : q ≤ 20 := HQ.out.2
      clear hq
      go_wp2_with fail
      clear hmin hmax hcd
      obtain ⟨w0, hw0⟩ : ∃ w0, w0 = wr := ⟨_, rfl⟩
      rw [← hw0] at HO HB ⊢
      clear hw0
      go_loopg [7, 11, 54] q (fun gk v7 v11 v54 wr => ∃ (j m : Nat) (row : List Int) (A7 : Option Addr) (c7 : Nat), v54 = .int .i64 (j : Int) ∧ v11 = .int .i64 (m : Int) ∧ v7 = .slice A7 row.length c7 ∧ Aside0 (j + gk = q) ∧ Aside0 (RowI row m) ∧ Aside0 (row.length = j) ∧ Aside0 (Ow wr w0.heap.size (.slice A7 row.length c7) row) ∧ Aside0 (Below w0.heap.size w0 wr))
      case atStart => exact ⟨0, 0, [], none, 0, rfl, rfl, rfl, ⟨by omega⟩, ⟨RowI.start⟩, ⟨rfl⟩, ⟨own_nil _ _ _ _⟩, ⟨Below.refl _ _⟩⟩
      case round =>
        obtain ⟨j, m, row, A7, c7, rfl, rfl, rfl, HJ, HRI, HRL, HO7, HB7⟩ := hrel
        by_cases hj : j < q
        · have hjd : decide (j < q) = true := decide_eq_true hj
          have hji : (j : Int) < (q : Int) := by omega
          have HJL := Aside0.mk hj
          obtain ⟨ad, rfl, hcell0⟩ := Kd.at_int HC.out (j : Int) (by omega) (by have := HQ.out.1; omega)
          rw [Int.toNat_natCast] at hcell0
          have hx : 0 ≤ rd cols (j : Int) ∧ rd cols (j : Int) < 256 := HC2.out.2 _ (by
            unfold rd
            rw [Int.toNat_natCast, List.getD_eq_getElem?_getD, List.getElem?_eq_getElem (by have := HQ.out.1; omega)]
            exact List.getElem_mem _)
          obtain ⟨X, hX⟩ := Int.eq_ofNat_of_zero_le hx.1
          rw [hX] at hx hcell0
          have hX256 : X < 256 := by omega
          have hcell : wr.cell? (ad.add j) = some (.int .u8 (X : Int)) := pw_cell_below (below_then HB.out HB.out.size HB7.out) hcell0
          clear hcell0 hx hX hj
          have hd8 : X % 8 < 8 := Nat.mod_lt _ (by decide)
          obtain ⟨M, hM⟩ : ∃ M : Nat, M = m ||| 2 ^ (X % 8) := ⟨_, rfl⟩
          have hbs : Go.bits .or .i64 (m : Int) (wrap64 (2 ^ (X % 8))) = (M : Int) := by
            rw [hM, ← bit_set m HRI.out.lt (X % 8) hd8]
            congr 1
            exact shl_pow _ hd8
          have HRM : Aside0 (RowI (row ++ [(M : Int)]) M) := ⟨by rw [hM]; exact HRI.out.more hd8⟩
          clear hM hd8
          go_wp2_with (first
            | ((with_reducible refine gate_builtin (b := .append) (xs := #[.tmp 63, .tmp 65]) rfl ?_); at_builtin; refine print_append (w0 := w0) w0.heap.size rfl (.tmp 63) (.tmp 65) 22 3 (.int .i64 0) 8 rfl Try.underlying22 info3 rfl (by decide) (.slice A7 row.length c7) (row.map (Value.int .i64)) (.int .i64 (M : Int)) rfl rfl rfl ?aO HB7.out HB7.out.size ?aL ?_; (case aO => rw [List.length_map]; exact HO7.out); (case aL => rw [List.length_map]; have := HRL.out; have := HJL.out; have := HQ.out; omega); intro v8 w8 q8 b8 g8 t8; have HO8 : Aside0 (Ow w8 w0.heap.size v8 (row ++ [(M : Int)])) := ⟨by unfold Ow; simpa using q8⟩; obtain ⟨A8, c8, hv8, _⟩ := ow_slice HO8.out; subst hv8; have HB8 := Aside0.mk b8; clear q8 b8 g8 t8))
          obtain ⟨g2, hg2⟩ : ∃ g2, g2 = gk - 1 := ⟨_, rfl⟩
          go_roundg g2
          case measure => have := HJ.out; have := HJL.out; omega
          case rel => exact ⟨j + 1, M, row ++ [(M : Int)], A8, c8, by (have := HJL.out; go_num), rfl, by simp, ⟨by have := HJ.out; have := HJL.out; omega⟩, HRM, ⟨by simp [HRL.out]⟩, HO8, HB8⟩
        · have hjd : decide (j < q) = false := decide_eq_false hj
          have hrl : row.length ≤ 20 := by have := HRL.out; have := HJ.out; omega
          have HRL2 := Aside0.mk (HRI.out.least hrl)
          have HBW : Aside0 (Below W.heap.size W wr) := ⟨below_then HB.out HB.out.size HB7.out⟩
          obtain ⟨Al, cl, hvl, hsl⟩ := ow_slice (pw_own_below HO.out HB7.out)
          injection hvl with e1 e2 e3
          subst e1 e3
          obtain ⟨Ar, cr, hvr, hsr⟩ := ow_slice HO7.out
          injection hvr with e1 e2 e3
          subst e1 e3
          have hL1 := least_calls A6 c6 L wr hsl
          have HSR := Aside0.mk hsr
          clear hsl hsr e2 hj hrl
          go_wp2_with (first
            | (go_at_call 38; refine hL1.mono ?_; clear hL1; rintro e w1 ⟨⟨x, y, rfl, hr⟩, hb1⟩; obtain rfl : y = 0 := hr.1.trans HLE.out.2; (obtain rfl : x = (L.length : Int) := by { obtain ⟨k, a, b⟩ := hr.2.2 rfl; rw [b, a.eq HLE.out.1] }); have HB1 := Aside0.mk (below_then HBW.out HBW.out.size hb1); have hL2 := least_calls A7 c7 row w1 (HSR.out.below hb1); clear hr hb1)
            | (go_at_call 38; refine hL2.mono ?_; clear hL2; rintro e w2 ⟨⟨x, y, rfl, hr⟩, hb2⟩; obtain rfl : y = 0 := hr.1.trans HRL2.out.2; (obtain rfl : x = 1 := by { obtain ⟨k, a, b⟩ := hr.2.2 rfl; rw [b, a.eq HRL2.out.1]; rfl }); have HB2 := Aside0.mk (below_then HB1.out HB1.out.size hb2); clear hr hb2)
            | (go_at_call 40; refine (alive_calls w2).mono ?_; rintro e w3 ⟨rfl, hb3⟩; have HB3 := Aside0.mk (below_then HB2.out HB2.out.size hb3); clear hb3))
          go_ret
          exact ⟨by simp, HB3.out⟩

end Go.Proofs.Ytcmllllbmgcnlaa.Ch

namespace Go.Proofs.Ytcmllllbmgcnlaa.Ch
open Go.ChangeShapes Go.WideShapes Go.ChangeAt Go.RowKit Go.Joins Go.Proofs.Ytcmllllbmgcnlaa.C Go.Proofs.Ytcmllllbmgcnlaa.ChT Go.Proofs.YtcmllllbmgcnlaaW Go.Proofs.YtcmllllbmgcnlaaW.PrintWords
set_option linter.unusedVariables false
set_option linter.unusedSimpArgs false

/-- A slice of bytes that is read. -/
structure S8 (w : World) (A : Option Addr) (c : Nat) (l : List Int) : Prop where
  C : Kd.C (Kd.int .u8) w A l.length l
  le : l.length ≤ c
section
variable {H : Type} {enc : TypeId × Value → H} {W : World} {base b0 : Nat} {held : Bool}
set_option maxRecDepth 100000 in
theorem u8_of_trod {fuel : Nat} {a : Option Addr} {len cap : Nat} {y : DataW H × List MemPlace} (hf : DataW.trod enc Try.prog W base (fun _ => true) held fuel 82 [.slice a len cap] = some y) :
    ∃ l : List Int, len = l.length ∧ S8 W a cap l ∧ ∀ x ∈ l, (Lit.int .u8 x).wf = true := by
  have row : (a = none ∧ len = 0 ∧ cap = 0 ∧ ([] : List Int) = []) ∨ ∃ zs : List Int, ∃ x, a = some x ∧ len ≤ cap ∧ cap ≤ maxLen ∧ zs.length = cap ∧ (∀ i, i < zs.length → W.cell? (x.add i) = some (.int .u8 (zs.getD i 0))) ∧ ∀ n ∈ zs, (Lit.int .u8 n).wf = true := by
    rcases open_ints Try.underlying82 Try.underlying5 (by kernel_rfl) hf with ⟨hcs, _⟩ | ⟨x, l, c, zs, hcs, _, hl, hm, hz, _, hcell, hwz⟩
    · simp at hcs
      obtain ⟨rfl, rfl, rfl⟩ := hcs
      exact .inl ⟨rfl, rfl, rfl, rfl⟩
    · simp at hcs
      obtain ⟨rfl, rfl, rfl⟩ := hcs
      exact .inr ⟨zs, _, rfl, hl, hm, by simpa using hz, hcell, hwz⟩
  have row2 : ∃ zs : List Int, (a = none ∧ len = 0 ∧ cap = 0 ∧ zs = []) ∨ ∃ x, a = some x ∧ len ≤ cap ∧ cap ≤ maxLen ∧ zs.length = cap ∧ (∀ i, i < zs.length → W.cell? (x.add i) = some (.int .u8 (zs.getD i 0))) ∧ ∀ n ∈ zs, (Lit.int .u8 n).wf = true := by
    rcases row with h | ⟨zs, h⟩
    · exact ⟨[], .inl h⟩
    · exact ⟨zs, .inr h⟩
  obtain ⟨zs, h⟩ := row2
  obtain ⟨l, e, hr, hm, hw, hc⟩ := ReadsInt.ofRowC h
  subst e
  exact ⟨l, rfl, ⟨Kd.C_of_reads (d := (0 : Int)) (h1 := fun _ => rfl) hr, hc⟩, hw⟩
set_option maxRecDepth 100000 in
theorem open_u8s {v : Value} {d : DataW H} {p : List MemPlace} (hv : Value.okWide Try.prog W .any b0 82 v) (h : DataW.Trod enc Try.prog W base (fun _ => true) held 82 v d p) :
    ∃ A c l, v = .slice A l.length c ∧ S8 W A c l ∧ ∀ x ∈ l, (Lit.int .u8 x).wf = true := by
  obtain ⟨a, len, cap, rfl⟩ := okWide_slice Try.underlying82 hv
  obtain ⟨fuel, hf⟩ := h
  obtain ⟨l, rfl, hs, hw⟩ := u8_of_trod hf
  exact ⟨a, cap, l, rfl, hs, hw⟩
end
theorem wf8 {x : Int} (h : (Lit.int .u8 x).wf = true) : 0 ≤ x ∧ x < 256 := by
  simp [Lit.wf, IntKind.min, IntKind.max, IntKind.signed, IntKind.bits] at h
  omega
theorem chainApart_calls {W : World} (z : Int) (hw : (Lit.int .u8 z).wf = true) (A : Option Addr) (c : Nat) (l : List Int) (h : S8 W A c l) (hf : ∀ x ∈ l, (Lit.int .u8 x).wf = true) (W' : World) (e : W' = W) :
    Calls Try.prog 13 #[.int .u8 z, .slice A l.length c] W' fun e w' => e = .returned (.bool true) ∧ Below W.heap.size W w' := by
  subst e
  have hz := wf8 hw
  obtain ⟨n, rfl⟩ := Int.eq_ofNat_of_zero_le hz.1
  exact apart_main W' n (by omega) A c l h.C h.le fun x hx => wf8 (hf x hx)

end Go.Proofs.Ytcmllllbmgcnlaa.Ch

namespace Go.Proofs.Ytcmllllbmgcnlaa.chainApart
open Go.ChangeShapes Go.WideShapes Go.ChangeAt Go.RowKit Go.Proofs.YtcmllllbmgcnlaaW Go.Proofs.Ytcmllllbmgcnlaa.Ch
open Go.ChangeMaps (open_string shut_string)
set_option linter.unusedVariables false
theorem own : ownKnob Try.prog.godebug = none := by kernel_rfl
theorem laidOut : laidOutB Try.prog = true := by kernel_rfl
set_option maxRecDepth 100000 in
theorem lifted (os : Os) (started : os.Started) (H : Type) (enc : TypeId × Value → H) :
    ReturnsInHanded {} Try.checked os 13 .any (Rows.chainApartSpec.pre6 enc Try.prog Try.f13 Rows.chainApartRow.domain false) (Rows.chainApartSpec.post enc Try.prog Try.f13 false true false false) := by
  refine returnsInHanded_of_change_sized (C := Try.checked) own started (by kernel_rfl) Try.func13
    (ChangeSpec.witness6 (enc := enc) (C := Try.checked) false ⟨#[], #[.int .u8 0, .slice none 0 0], []⟩ 8 (by kernel_rfl) (by kernel_rfl) (by kernel_rfl) (by kernel_rfl)) ?_
  intro W base args ds gs before hval0 hW hcnd hsz0 _
  have hsz : (DataW.weightsEach Try.prog (Try.f13.params.toList ++ Rows.chainApartSpec.plain.varTypes Try.prog) (ds ++ gs)).all (· ≤ reachBytes) = true := hsz0
  have hval : ∀ (j : Nat) t v, Try.f13.params[j]? = some t → args[j]? = some v → Value.okWide Try.prog W .any base t v := hval0
  have hW' := hW
  obtain ⟨p, q, hA0, hV, rfl, hfz, hnd⟩ := hW
  have hA : DataW.TrodAll enc Try.prog W 0 (fun _ => true) true Try.f13.params.toList args.toList ds p := hA0
  rw [Try.params13] at hA hval hsz
  obtain ⟨v0, vs0, d0, ds0, p0, q0, hargs, rfl, rfl, h0, r0⟩ := trodAll_cons hA
  obtain ⟨v1, vs1, d1, ds1, p1, q1, rfl, rfl, rfl, h1, r1⟩ := trodAll_cons r0
  obtain ⟨rfl, rfl, rfl⟩ := trodAll_nil r1
  obtain rfl : args = #[v0, v1] := by cases args; simp_all
  obtain ⟨rfl, rfl⟩ := trodVars_none hV
  have k0 := h0
  have lt0 : ∀ x ∈ p0, x.block < W.heap.size := by obtain ⟨m, hm⟩ := k0; exact DataW.trod_lt m _ _ _ hm
  obtain ⟨n0, rfl, rfl, rfl, w0⟩ := open_int Try.underlying5 (hval 0 5 v0 rfl rfl) h0
  have k1 := h1
  have lt1 : ∀ x ∈ p1, x.block < W.heap.size := by obtain ⟨m, hm⟩ := k1; exact DataW.trod_lt m _ _ _ hm
  obtain ⟨A1, c1, l1, rfl, s1, f1⟩ := open_u8s (hval 1 82 v1 rfl rfl) h1
  clear hA0 hval0 hsz0 hsz
  refine (chainApart_calls n0 w0 A1 c1 l1 s1 f1 W rfl).mono fun e W' ⟨he, bel⟩ => ?_
  subst he
  exact ⟨_, rfl, _, _, _, [], _, [], hW', trodAll_mk1 (shut_bool Try.underlying4 _), (trodAll_cons_mk (shut_int Try.underlying5 w0) (trodAll_cons_mk (Below.trod laidOut (by kernel_rfl) (of_decide_eq_true (by kernel_rfl)) k1 bel lt1) trodAll_mk0)), rfl, bel.frame _, fun h => by cases h⟩
theorem over : Rows.chainApartRow.holds Try.pinned (OpenSpec.ofChange Rows.chainApartSpec) :=
  OpenClaim.holds_of_wide 13 Try.f13 rfl rfl rfl rfl rfl rfl rfl ⟨rfl, rfl, rfl, rfl, rfl⟩ rfl rfl rfl rfl rfl (by kernel_rfl) Try.func13 (by kernel_rfl)
    (of_decide_eq_true (by kernel_rfl)) (by unfold Func.isWrapper; first | (rw [if_pos (by decide +kernel)]; kernel_rfl) | (rw [if_neg (by decide +kernel)]; exact ⟨rfl, rfl⟩))
    (fun os started H enc _ => lifted os started H enc)
end Go.Proofs.Ytcmllllbmgcnlaa.chainApart
namespace Go.Proofs.Ytcmllllbmgcnlaa
/-- The statement, under a short name, for the claim. -/
theorem chainApart_holds : Rows.ChainApartSaid := chainApart.over
#print axioms chainApart_holds
end Go.Proofs.Ytcmllllbmgcnlaa
