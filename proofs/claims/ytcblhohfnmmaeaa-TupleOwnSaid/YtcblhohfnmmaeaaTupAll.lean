/- The walk of the law TupleAll. -/
import Derived.Test.YtcblhohfnmmaeaaTupD
import Derived.Test.YtcblhohfnmmaeaaTupSorts
namespace Go.Proofs.Ytcblhohfnmmaeaa.Tup
open Go.RowKit Go.Proofs.Ytcblhohfnmmaeaa.F Go.Proofs.YtcblhohfnmmaeaaW.PrintWords Go.Proofs.YtcblhohfnmmaeaaW.PrintLast Go.Proofs.YtcblhohfnmmaeaaW.PrintMore
set_option linter.unusedVariables false
set_option linter.unusedSimpArgs false

theorem R_sl {w : World} {base : Nat} {ok : Nat → Prop} {v : Value} {r : List Int} (h : Kd.R (Kd.int .i64) 3 w base ok v r) : ∃ A c, v = .slice A r.length c ∧ Sl w A c r := by
  obtain ⟨A, c, e, hl, hc⟩ := Kd.R_reads h
  exact ⟨A, c, e, hc, hl⟩
theorem turn_calls (A0 : Option Addr) (c0 : Nat) (o : List Int) (A1 : Option Addr) (c1 : Nat) (a : List Int) (w : World) (h0 : Sl w A0 c0 o) (h1 : Sl w A1 c1 a) :
    Calls Try.prog 17 #[.slice A0 o.length c0, .slice A1 a.length c1] w fun e w' => ∃ A c, e = .returned (.slice A (turnS o a).length c) ∧ Sl w' A c (turnS o a) ∧ Below w.heap.size w w' :=
  (tuple_Turn.calls (o.length + 4) _ _ o _ _ _ a _ w h0.C h0.le h1.V (turn_is _ o a (by omega))).mono (by
    rintro e w' ⟨v, rfl, hR, hb⟩
    obtain ⟨A, c, rfl, hs⟩ := R_sl hR
    exact ⟨A, c, rfl, hs, hb⟩)
theorem back_calls (A0 : Option Addr) (c0 : Nat) (o : List Int) (A1 : Option Addr) (c1 : Nat) (a : List Int) (w : World) (h0 : Sl w A0 c0 o) (h1 : Sl w A1 c1 a) :
    Calls Try.prog 18 #[.slice A0 o.length c0, .slice A1 a.length c1] w fun e w' => ∃ A c, e = .returned (.slice A (backS o a).length c) ∧ Sl w' A c (backS o a) ∧ Below w.heap.size w w' :=
  (tuple_Back.calls (o.length + 4) _ _ o _ _ _ a _ w h0.C h0.le h1.V (back_is _ o a (by omega))).mono (by
    rintro e w' ⟨v, rfl, hR, hb⟩
    obtain ⟨A, c, rfl, hs⟩ := R_sl hR
    exact ⟨A, c, rfl, hs, hb⟩)
theorem rturn_calls (A0 : Option Addr) (c0 : Nat) (o : List Int) (A1 : Option Addr) (c1 : Nat) (a : List Int) (w : World) (h0 : Sl w A0 c0 o) (h1 : Sl w A1 c1 a) (hn : o.length ≤ 9223372036854775806) :
    Calls Try.prog 23 #[.slice A0 o.length c0, .slice A1 a.length c1] w fun e w' => ∃ A c, e = .returned (.slice A (turnS o a).length c) ∧ Sl w' A c (turnS o a) ∧ Below w.heap.size w w' :=
  (vestryref04_Turn.calls (2 * o.length + 2) _ _ o _ _ a _ w h0.C h0.le h1.C h1.le (rturn_is _ o a hn (by omega))).mono (by
    rintro e w' ⟨v, rfl, hR, hb⟩
    obtain ⟨A, c, rfl, hs⟩ := R_sl hR
    exact ⟨A, c, rfl, hs, hb⟩)
theorem rback_calls (A0 : Option Addr) (c0 : Nat) (o : List Int) (A1 : Option Addr) (c1 : Nat) (a : List Int) (w : World) (h0 : Sl w A0 c0 o) (h1 : Sl w A1 c1 a) (hn : o.length ≤ 9223372036854775806) :
    Calls Try.prog 24 #[.slice A0 o.length c0, .slice A1 a.length c1] w fun e w' => ∃ A c, e = .returned (.slice A (backS o a).length c) ∧ Sl w' A c (backS o a) ∧ Below w.heap.size w w' :=
  (vestryref04_Back.calls (2 * o.length + 2) _ _ o _ _ a _ w h0.C h0.le h1.C h1.le (rback_is _ o a hn (by omega))).mono (by
    rintro e w' ⟨v, rfl, hR, hb⟩
    obtain ⟨A, c, rfl, hs⟩ := R_sl hR
    exact ⟨A, c, rfl, hs, hb⟩)
theorem rright_calls (A0 : Option Addr) (c0 : Nat) (o : List Int) (w : World) (h0 : Sl w A0 c0 o) (hn : o.length ≤ 9223372036854775806) :
    Calls Try.prog 20 #[.slice A0 o.length c0] w fun e w' => e = .returned (.bool (decide (Rt o))) ∧ Drawn0 w w' :=
  vestryref04_Right.calls (2 * o.length + 2) _ _ o _ w h0.C h0.le (rright_is _ o hn (by omega))
theorem rcmp_calls (A0 : Option Addr) (c0 : Nat) (o : List Int) (A1 : Option Addr) (c1 : Nat) (a : List Int) (A2 : Option Addr) (c2 : Nat) (b : List Int) (w : World) (h0 : Sl w A0 c0 o) (h1 : Sl w A1 c1 a) (h2 : Sl w A2 c2 b) (hn : o.length ≤ 9223372036854775806) :
    Calls Try.prog 21 #[.slice A0 o.length c0, .slice A1 a.length c1, .slice A2 b.length c2] w fun e w' => e = .returned (.int .i64 (cmpS o a b)) ∧ Drawn0 w w' :=
  vestryref04_Cmp.calls (2 * o.length + 2) _ _ o _ _ a _ _ b _ w h0.C h0.le h1.C h1.le h2.C h2.le (rcmp_is _ o a b hn (by omega))
theorem rhead_calls (A0 : Option Addr) (c0 : Nat) (o : List Int) (k : Int) (A1 : Option Addr) (c1 : Nat) (a : List Int) (A2 : Option Addr) (c2 : Nat) (b : List Int) (w : World) (h0 : Sl w A0 c0 o) (h1 : Sl w A1 c1 a) (h2 : Sl w A2 c2 b) (hn : o.length ≤ 9223372036854775806) :
    Calls Try.prog 22 #[.slice A0 o.length c0, .int .i64 k, .slice A1 a.length c1, .slice A2 b.length c2] w fun e w' => e = .returned (.bool (headS o k a b)) ∧ Drawn0 w w' :=
  vestryref04_Head.calls (2 * o.length + 2) _ _ o k _ _ a _ _ b _ w h0.C h0.le h1.C h1.le h2.C h2.le (rhead_is _ o k a b hn (by omega))

theorem backL_len (o : List Int) (i : Nat) (t out : List Int) : (backL o i t out).length = out.length := by
  induction o generalizing i out with
  | nil => rfl
  | cons c o ih => rw [backL, ih]; simp
theorem turnS_small (o t : List Int) (h : o.length ≤ 9223372036854775806) : (turnS o t).length ≤ 9223372036854775806 := by
  unfold turnS; split
  · simpa using h
  · simp
theorem backS_small (o t : List Int) : (backS o t).length ≤ 9223372036854775806 := by
  unfold backS; split
  · rename_i h
    rw [backL_len]
    have h1 := h.1
    have h2 := h.2.1
    simp; omega
  · simp
/-- Two readings of one list are the same. -/
theorem same_self (A0 : Option Addr) (c0 : Nat) (a : List Int) (A1 : Option Addr) (c1 : Nat) (w : World) (h0 : Sl w A0 c0 a) (h1 : Sl w A1 c1 a) (hn : a.length ≤ 9223372036854775806) :
    Calls Try.prog 12 #[.slice A0 a.length c0, .slice A1 a.length c1] w fun e w' => e = .returned (.bool true) ∧ Drawn0 w w' := same_yes A0 c0 a A1 c1 a w h0 h1 hn rfl

set_option maxHeartbeats 1000000 in
set_option maxRecDepth 100000 in
theorem all_calls (A0 : Option Addr) (c0 : Nat) (o : List Int) (A1 : Option Addr) (c1 : Nat) (a : List Int) (A2 : Option Addr) (c2 : Nat) (b : List Int) (z : Int) (w : World)
    (h0 : Sl w A0 c0 o) (h1 : Sl w A1 c1 a) (h2 : Sl w A2 c2 b) (hn : o.length ≤ 9223372036854775806) :
    Calls Try.prog 8 #[.slice A0 o.length c0, .agg #[.slice A1 a.length c1, .slice A2 b.length c2], .int .i64 z] w fun e w' => e = .returned (.bool true) ∧ Below w.heap.size w w' := by
  have sT := turnS_small o a hn
  have sB := backS_small o a
  obtain ⟨r, hr⟩ : ∃ r, decide (Rt o) = r := ⟨_, rfl⟩
  obtain ⟨m, hm⟩ : ∃ r, cmpS o a b = r := ⟨_, rfl⟩
  obtain ⟨p, hp⟩ : ∃ r, headS o z a b = r := ⟨_, rfl⟩
  obtain ⟨x, hx⟩ : ∃ r, turnS o a = r := ⟨_, rfl⟩
  obtain ⟨y, hy⟩ : ∃ r, backS o a = r := ⟨_, rfl⟩
  rw [hx] at sT
  rw [hy] at sB
  have f9 := Aside0.mk (fun w' s => hr ▸ right_calls A0 c0 o w' s)
  have f20 := Aside0.mk (fun w' s => hr ▸ rright_calls A0 c0 o w' s hn)
  have f11 := Aside0.mk (fun w' s t u => hm ▸ cmp_calls A0 c0 o A1 c1 a A2 c2 b w' s t u)
  have f21 := Aside0.mk (fun w' s t u => hm ▸ rcmp_calls A0 c0 o A1 c1 a A2 c2 b w' s t u hn)
  have f19 := Aside0.mk (fun w' s t u => hp ▸ head_calls A0 c0 o z A1 c1 a A2 c2 b w' s t u)
  have f22 := Aside0.mk (fun w' s t u => hp ▸ rhead_calls A0 c0 o z A1 c1 a A2 c2 b w' s t u hn)
  have f17 := Aside0.mk (fun w' s t => hx ▸ turn_calls A0 c0 o A1 c1 a w' s t)
  have f23 := Aside0.mk (fun w' s t => hx ▸ rturn_calls A0 c0 o A1 c1 a w' s t hn)
  have f18 := Aside0.mk (fun w' s t => hy ▸ back_calls A0 c0 o A1 c1 a w' s t)
  have f24 := Aside0.mk (fun w' s t => hy ▸ rback_calls A0 c0 o A1 c1 a w' s t hn)
  clear hr hm hp hx hy
  have HS := Aside0.mk (fun n => Since.drewN (Since.alloc (Since.refl w) (.cells #[.slice A1 a.length c1, .slice A2 b.length c2] 41)) n)
  go_enter Try.func8, Try.ntmps8
  go_wp2
  go_quiet (fail)
  go_wp2_with (first
    | (go_at_call 9; ((with_reducible refine (f9.out _ ?s1).mono ?_); (case s1 => exact Since.sl (HS.out _) h0); rintro e w1 ⟨rfl, hd⟩; have hs := (HS.out _).trans (Since.ofDrawn hd)))
    | (go_at_call 20; ((with_reducible refine (f20.out _ ?s1).mono ?_); (case s1 => exact Since.sl hs h0); rintro e w1 ⟨rfl, ⟨nd, rfl⟩⟩; have hs' := hs.drewN nd; clear hs; have hs := hs'; clear hs'))
    | (go_at_call 11; ((with_reducible refine (f11.out _ ?s1 ?s2 ?s3).mono ?_); (case s1 => exact Since.sl hs h0); (case s2 => exact Since.sl hs h1); (case s3 => exact Since.sl hs h2); rintro e w1 ⟨rfl, hb⟩; have hs' := hs.step hb; clear hs hb; have hs := hs'; clear hs'))
    | (go_at_call 21; ((with_reducible refine (f21.out _ ?s1 ?s2 ?s3).mono ?_); (case s1 => exact Since.sl hs h0); (case s2 => exact Since.sl hs h1); (case s3 => exact Since.sl hs h2); rintro e w1 ⟨rfl, ⟨nd, rfl⟩⟩; have hs' := hs.drewN nd; clear hs; have hs := hs'; clear hs'))
    | (go_at_call 19; ((with_reducible refine (f19.out _ ?s1 ?s2 ?s3).mono ?_); (case s1 => exact Since.sl hs h0); (case s2 => exact Since.sl hs h1); (case s3 => exact Since.sl hs h2); rintro e w1 ⟨rfl, hb⟩; have hs' := hs.step hb; clear hs hb; have hs := hs'; clear hs'))
    | (go_at_call 22; ((with_reducible refine (f22.out _ ?s1 ?s2 ?s3).mono ?_); (case s1 => exact Since.sl hs h0); (case s2 => exact Since.sl hs h1); (case s3 => exact Since.sl hs h2); rintro e w1 ⟨rfl, ⟨nd, rfl⟩⟩; have hs' := hs.drewN nd; clear hs; have hs := hs'; clear hs'))
    | (go_at_call 17; ((with_reducible refine (f17.out _ ?s1 ?s2).mono ?_); (case s1 => exact Since.sl hs h0); (case s2 => exact Since.sl hs h1); rintro e w1 ⟨At, cAt, rfl, sAt, hb⟩; have hs' := hs.step hb; clear hs; have hs := hs'; clear hs'; clear hb; have kAt := Since.refl w1))
    | (go_at_call 23; ((with_reducible refine (f23.out _ ?s1 ?s2).mono ?_); (case s1 => exact Since.sl hs h0); (case s2 => exact Since.sl hs h1); rintro e w1 ⟨Ar, cAr, rfl, sAr, hb⟩; have hs' := hs.step hb; clear hs; have hs := hs'; clear hs'; have kAt' := kAt.step hb; clear kAt hb))
    | (go_at_call 12; ((with_reducible refine (same_self At cAt x Ar cAr _ ?s1 ?s2 sT).mono ?_); (case s1 => exact Since.sl kAt' sAt); (case s2 => exact sAr); rintro e w1 ⟨rfl, ⟨nd, rfl⟩⟩; have hs' := hs.drewN nd; clear hs; have hs := hs'; clear hs'; clear kAt' sAt sAr))
    | (go_at_call 18; ((with_reducible refine (f18.out _ ?s1 ?s2).mono ?_); (case s1 => exact Since.sl hs h0); (case s2 => exact Since.sl hs h1); rintro e w1 ⟨Bt, cBt, rfl, sBt, hb⟩; have hs' := hs.step hb; clear hs; have hs := hs'; clear hs'; clear hb; have kBt := Since.refl w1))
    | (go_at_call 24; ((with_reducible refine (f24.out _ ?s1 ?s2).mono ?_); (case s1 => exact Since.sl hs h0); (case s2 => exact Since.sl hs h1); rintro e w1 ⟨Br, cBr, rfl, sBr, hb⟩; have hs' := hs.step hb; clear hs; have hs := hs'; clear hs'; have kBt' := kBt.step hb; clear kBt hb))
    | (go_at_call 12; ((with_reducible refine (same_self Bt cBt y Br cBr _ ?s1 ?s2 sB).mono ?_); (case s1 => exact Since.sl kBt' sBt); (case s2 => exact sBr); rintro e w1 ⟨rfl, ⟨nd, rfl⟩⟩; have hs' := hs.drewN nd; clear hs; have hs := hs'; clear hs'; clear kBt' sBt sBr))
    | (go_at_call 10; refine (alive_calls _).mono ?_; rintro e w1 ⟨rfl, hb⟩; have hs' := hs.step hb; clear hs hb; have hs := hs'; clear hs'))
  go_ret
  exact ⟨rfl, hs.b⟩

/-- The law TupleAll answers true. -/
theorem all_law_calls (A0 : Option Addr) (c0 : Nat) (o : List Int) {W : World} (h0 : Sl W A0 c0 o) (_ : ∀ x ∈ o, (Lit.int .i64 x).wf = true) (y0 : o.length * 8 ≤ 140737488351232) (A1 : Option Addr) (c1 : Nat) (a : List Int) (h1 : Sl W A1 c1 a) (A2 : Option Addr) (c2 : Nat) (b : List Int) (h2 : Sl W A2 c2 b) (z : Int) (_ : (Lit.int .i64 z).wf = true) (w : World) (hw : w = W) :
    Calls Try.prog 8 #[.slice A0 o.length c0, .agg #[.slice A1 a.length c1, .slice A2 b.length c2], .int .i64 z] w fun e w' => e = .returned (.bool true) ∧ Below w.heap.size w w' := by
  subst hw
  exact all_calls A0 c0 o A1 c1 a A2 c2 b z w h0 h1 h2 (by omega)

end Go.Proofs.Ytcblhohfnmmaeaa.Tup
