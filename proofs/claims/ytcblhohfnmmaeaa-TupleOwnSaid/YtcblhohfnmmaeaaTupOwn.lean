/- The walk of the law TupleOwn. -/
import Derived.Test.YtcblhohfnmmaeaaTupTurns
namespace Go.Proofs.Ytcblhohfnmmaeaa.Tup
open Go.RowKit Go.Proofs.Ytcblhohfnmmaeaa.F Go.Proofs.YtcblhohfnmmaeaaW.PrintWords Go.Proofs.YtcblhohfnmmaeaaW.PrintLast Go.Proofs.YtcblhohfnmmaeaaW.PrintMore
set_option linter.unusedVariables false
set_option linter.unusedSimpArgs false

/-- A row of numbers of the call's own: its block lies in ok. -/
abbrev Rw (w : World) (base : Nat) (ok : Nat → Prop) (v : Value) (xs : List Int) : Prop := Kd.R (Kd.int .i64) 3 w base ok v xs

theorem turn_own (A0 : Option Addr) (c0 : Nat) (o : List Int) (A1 : Option Addr) (c1 : Nat) (a : List Int) (w : World) (h0 : Sl w A0 c0 o) (h1 : Sl w A1 c1 a) :
    Calls Try.prog 17 #[.slice A0 o.length c0, .slice A1 a.length c1] w fun e w' => ∃ v, e = .returned v ∧ Rw w' w.heap.size (fun k => w.heap.size ≤ k) v (turnS o a) ∧ Below w.heap.size w w' :=
  tuple_Turn.calls (o.length + 4) _ _ o _ _ _ a _ w h0.C h0.le h1.V (turn_is _ o a (by omega))
theorem back_own (A0 : Option Addr) (c0 : Nat) (o : List Int) (A1 : Option Addr) (c1 : Nat) (a : List Int) (w : World) (h0 : Sl w A0 c0 o) (h1 : Sl w A1 c1 a) :
    Calls Try.prog 18 #[.slice A0 o.length c0, .slice A1 a.length c1] w fun e w' => ∃ v, e = .returned v ∧ Rw w' w.heap.size (fun k => w.heap.size ≤ k) v (backS o a) ∧ Below w.heap.size w w' :=
  tuple_Back.calls (o.length + 4) _ _ o _ _ _ a _ w h0.C h0.le h1.V (back_is _ o a (by omega))
theorem cols_calls (A0 : Option Addr) (c0 : Nat) (l : List Int) (w : World) (h0 : Sl w A0 c0 l) (hn : l.length ≤ 9223372036854775806) :
    Calls Try.prog 15 #[.slice A0 l.length c0] w fun e w' => e = .returned (.tuple #[.int .i64 (colsS l).1, .int .i64 (colsS l).2]) ∧ Drawn0 w w' :=
  tuple_Cols.calls (l.length + 1) _ _ l _ _ w h0.C h0.le (cols_is _ l hn (by omega))
theorem turnS_8 (o t : List Int) : (turnS o t).length ≤ 8 := by
  unfold turnS; split
  · rename_i h; have := h.2.1; simpa using this
  · simp
theorem backS_8 (o t : List Int) : (backS o t).length ≤ 8 := by
  unfold backS; split
  · rename_i h; rw [backL_len]; have := h.1; have := h.2.1; simp; omega
  · simp
theorem colsS_err (l : List Int) : (colsS l).2 = 0 ∨ (colsS l).2 = 1 := by
  unfold colsS; split
  · exact .inl rfl
  · exact .inr rfl

set_option maxHeartbeats 2000000 in
set_option maxRecDepth 100000 in
theorem own_calls (A0 : Option Addr) (c0 : Nat) (o : List Int) (A1 : Option Addr) (c1 : Nat) (a : List Int) (w : World)
    (h0 : Sl w A0 c0 o) (h1 : Sl w A1 c1 a) (y0 : o.length * 8 ≤ 140737488351232) (y1 : a.length * 8 ≤ 140737488351232) (er : Int) (her : (er == 0) = true ∨ (er == 0) = false ∧ (er == 1) = true) (cs : Int) (hcs : colsS o = (cs, er)) :
    Calls Try.prog 7 #[.slice A0 o.length c0, .slice A1 a.length c1] w fun e w' => e = .returned (.bool true) ∧ Below w.heap.size w w' := by
  have so : o.length ≤ 9223372036854775806 := by omega
  have sa : a.length ≤ 9223372036854775806 := by omega
  have x8 := turnS_8 o a
  have z8 := backS_8 o a
  obtain ⟨x, hx⟩ : ∃ r, turnS o a = r := ⟨_, rfl⟩
  obtain ⟨y, hy⟩ : ∃ r, backS o a = r := ⟨_, rfl⟩
  rw [hx] at x8
  rw [hy] at z8
  have f17 := Aside0.mk (fun A c A' c' w' s t => hx ▸ turn_own A c o A' c' a w' s t)
  have f18 := Aside0.mk (fun A c A' c' w' s t => hy ▸ back_own A c o A' c' a w' s t)
  have f15 := Aside0.mk (show ∀ A c w', Sl w' A c o → Calls Try.prog 15 #[.slice A o.length c] w' (fun e w'' => e = .returned (.tuple #[.int .i64 cs, .int .i64 er]) ∧ Drawn0 w' w'') from fun A c w' s => by
    have := cols_calls A c o w' s so
    rw [hcs] at this
    exact this)
  clear hx hy hcs
  go_enter Try.func7, Try.ntmps7
  go_wp2_with (first
    | ((with_reducible refine gate_builtin (b := .append) (xs := #[.const (.slice none 0 0), .tmp 13]) rfl ?_); at_builtin; refine Kd.R_append_row (Value.int .i64) (0 : Int) (h1 := fun _ => rfl) (w0 := w) w.heap.size rfl (.const (.slice none 0 0)) (.tmp 13) 22 3 (.int .i64 0) 8 rfl Try.underlying22 info3 rfl (by omega) (.slice none 0 0) ([] : List Int) o A0 o.length c0 (fun _ => True) rfl rfl (fun _ _ => trivial) (Kd.R_nil _ _ _ _ _) h0.C (Below.refl _ _) (Nat.le_refl _) (by simp; omega) ?_; intro v5 w1 r5 b1 g1 t1; rw [List.nil_append] at r5; have R5 := Aside0.mk r5; have B1 := Aside0.mk b1; clear r5 b1 g1 t1; obtain ⟨A5, c5, e5, s5⟩ := R_sl R5.out; subst e5; clear s5)
    | ((with_reducible refine gate_builtin (b := .append) (xs := #[.const (.slice none 0 0), .tmp 15]) rfl ?_); at_builtin; refine Kd.R_append_row (Value.int .i64) (0 : Int) (h1 := fun _ => rfl) (w0 := w1) w1.heap.size rfl (.const (.slice none 0 0)) (.tmp 15) 22 3 (.int .i64 0) 8 rfl Try.underlying22 info3 rfl (by omega) (.slice none 0 0) ([] : List Int) a A1 a.length c1 (fun _ => True) rfl rfl (fun _ _ => trivial) (Kd.R_nil _ _ _ _ _) (h1.below B1.out).C (Below.refl _ _) (Nat.le_refl _) (by simp; omega) ?_; intro v6 w2 r6 b2 g2 t2; rw [List.nil_append] at r6; obtain ⟨A6, c6, e6, s6⟩ := R_sl r6; subst e6; obtain ⟨A5', c5', e5, s5⟩ := R_sl (Kd.R_below R5.out b2); injection e5 with ea en ec; subst ea; subst ec; have S5 := Aside0.mk s5; have S6 := Aside0.mk s6; have HW := Aside0.mk (Since.step ⟨B1.out⟩ b2); clear r6 b2 g2 t2 s6 s5 R5 B1 en; have HS := Aside0.mk (Since.refl w2))
    | (go_at_call 17; ((with_reducible refine (f17.out A5 c5 A6 c6 _ ?s1 ?s2).mono ?_); (case s1 => exact S5.out); (case s2 => exact S6.out); rintro e w3 ⟨v7, rfl, r7, b3⟩; have R7 := Aside0.mk r7; have S53 := Aside0.mk (S5.out.below b3); have S63 := Aside0.mk (S6.out.below b3); have hs' := HS.out.step b3; clear HS; have HS := Aside0.mk hs'; clear hs' b3 r7))
    | (go_at_call 18; ((with_reducible refine (f18.out A5 c5 A6 c6 _ ?s1 ?s2).mono ?_); (case s1 => exact S53.out); (case s2 => exact S63.out); rintro e w4 ⟨v8, rfl, r8, b4⟩; have R8 := Aside0.mk (Kd.R_lower r8 HS.out.b.size); have R74 := Aside0.mk (Kd.R_below (Kd.R_mono (ok' := fun k => k < w3.heap.size) (Kd.R_bound R7.out) (fun k hk => hk.2.2.1)) b4); clear R7; have R7 := R74; clear R74; obtain ⟨A7, c7, e7, s7⟩ := R_sl R7.out; subst e7; obtain ⟨A8, c8, e8, s8⟩ := R_sl R8.out; subst e8; have hs' := HS.out.step b4; clear HS; have HS := Aside0.mk hs'; clear hs' b4 r8 s7 s8 S53 S63)))
  have XL := Aside0.mk x8
  have ZL := Aside0.mk z8
  have HN := Aside0.mk (show x.length ≤ 9223372036854775806 by omega)
  go_loopg [25] x.length (fun gk v25 w' => ∃ (i : Nat) (xs : List Int), v25 = .int .i64 (i : Int) ∧ Aside0 (i + gk = x.length) ∧ Aside0 (xs.length = x.length) ∧ Aside0 (Rw w' w2.heap.size (fun k => k < w3.heap.size) (.slice A7 x.length c7) xs) ∧ Aside0 (Rw w' w2.heap.size (fun k => w3.heap.size ≤ k) (.slice A8 y.length c8) y) ∧ Aside0 (Since w2 w'))
  case atStart => exact ⟨0, x, by simp, ⟨by omega⟩, ⟨rfl⟩, R7, R8, HS⟩
  case round =>
    obtain ⟨i, xs, rfl, HI, HL, HF, HG, HW2⟩ := hrel
    clear HS R7 R8
    by_cases hlt : i < x.length
    · have p19 : 0 ≤ (i : Int) := by omega
      have q19 : (i : Int) < (x.length : Int) := by omega
      have hl := HL.out
      have hF := HF.out
      rw [← hl] at hF
      obtain ⟨g, cg, eg, gb, gl, cl, hg0⟩ := Kd.R_form hF (by omega)
      injection eg with ea en ec
      subst ea
      subst ec
      have hok := hF.1 g (by simp [Value.ownBlock])
      have HOK := Aside0.mk hok
      have GB := Aside0.mk gb
      clear gb gl hg0 en
      rw [hl] at hF
      obtain ⟨hx0, hf0⟩ := Kd.R_celln 0 hF (i : Int) p19 q19
      have HP := Kd.R_putg hF (i : Int) (-9)
      rw [Int.toNat_natCast] at HP hx0 hf0
      have HP' := Aside0.mk HP
      clear HP hF hl hok
      obtain ⟨k2, rfl⟩ : ∃ k2, gk = k2 + 1 := ⟨gk - 1, by have := HI.out; omega⟩
      go_wp2
      go_roundg k2
      case measure => omega
      case rel => exact ⟨i + 1, _, by go_num, ⟨by have := HI.out; omega⟩, ⟨by rw [List.length_set]; exact HL.out⟩, ⟨HP'.out.1⟩, ⟨Kd.R_far (p := ⟨g, i, none⟩) HG.out (fun k hk e => by have h1 : w3.heap.size ≤ k := hk; have h2 : g < w3.heap.size := HOK.out; have h3 : k = g := e; omega) _⟩, ⟨⟨below_set HW2.out.b GB.out⟩⟩⟩
    · go_wp2
      have HN2 := Aside0.mk (show y.length ≤ 9223372036854775806 by have := ZL.out; omega)
      go_loopg [34] y.length (fun gk v25 w' => ∃ (i : Nat) (ys : List Int), v25 = .int .i64 (i : Int) ∧ Aside0 (i + gk = y.length) ∧ Aside0 (ys.length = y.length) ∧ Aside0 (Rw w' w2.heap.size (fun k => w3.heap.size ≤ k) (.slice A8 y.length c8) ys) ∧ Aside0 (Rw w' w2.heap.size (fun k => k < w3.heap.size) (.slice A7 x.length c7) xs) ∧ Aside0 (Since w2 w'))
      case atStart => exact ⟨0, y, by simp, ⟨by omega⟩, ⟨rfl⟩, HG, HF, HW2⟩
      case round =>
        obtain ⟨j, ys, rfl, HJ, HM, HF2, HG2, HW3⟩ := hrel
        clear HW2 HF HG
        by_cases hlt2 : j < y.length
        · have p20 : 0 ≤ (j : Int) := by omega
          have q20 : (j : Int) < (y.length : Int) := by omega
          have hl := HM.out
          have hF := HF2.out
          rw [← hl] at hF
          obtain ⟨g, cg, eg, gb, gl, cl, hg0⟩ := Kd.R_form hF (by omega)
          injection eg with ea en ec
          subst ea
          subst ec
          have hok := hF.1 g (by simp [Value.ownBlock])
          have HOK := Aside0.mk hok
          have GB := Aside0.mk gb
          clear gb gl hg0 en
          rw [hl] at hF
          obtain ⟨hx0, hf0⟩ := Kd.R_celln 0 hF (j : Int) p20 q20
          have HP := Kd.R_putg hF (j : Int) (-9)
          rw [Int.toNat_natCast] at HP hx0 hf0
          have HP' := Aside0.mk HP
          clear HP hF hl hok
          obtain ⟨k2, rfl⟩ : ∃ k2, gk = k2 + 1 := ⟨gk - 1, by have := HJ.out; omega⟩
          go_wp2
          go_roundg k2
          case measure => omega
          case rel => exact ⟨j + 1, _, by go_num, ⟨by have := HJ.out; omega⟩, ⟨by rw [List.length_set]; exact HM.out⟩, ⟨HP'.out.1⟩, ⟨Kd.R_far (p := ⟨g, j, none⟩) HG2.out (fun k hk e => by have h1 : k < w3.heap.size := hk; have h2 : w3.heap.size ≤ g := HOK.out; have h3 : k = g := e; omega) _⟩, ⟨⟨below_set HW3.out.b GB.out⟩⟩⟩
        · have hMx := HL.out
          have hMy := HM.out
          have HXL := Aside0.mk (show xs.length ≤ 8 by have := XL.out; omega)
          have HYL := Aside0.mk (show ys.length ≤ 8 by have := ZL.out; omega)
          have RX := HG2
          have RY := HF2
          clear hlt HG2 HF2 hMx hMy
          have HER := Aside0.mk her
          clear her
          obtain ⟨W5, hW5⟩ : ∃ W, W = wr := ⟨_, rfl⟩
          subst hW5
          rcases HER.out with q1 | ⟨q1, q2⟩
          all_goals clear HER
          all_goals go_wp2_with (first
            | ((with_reducible refine gate_builtin (b := .append) (xs := #[.tmp 41, .tmp 42]) rfl ?_); at_builtin; refine Kd.R_append (Kd.int .i64) (w0 := w2) w2.heap.size rfl (.tmp 41) (.tmp 42) 22 3 (.int .i64 0) 8 rfl Try.underlying22 info3 rfl (by decide) (by omega) (.slice A7 x.length c7) xs 1 [.int .i64 1] (fun k => k < w3.heap.size ∨ W5.heap.size ≤ k) (fun _ => False) rfl rfl ?aP (fun _ hk => hk.elim) ?aF ?aO ?aB ?aS ?aL ?_; (case aP => exact rfl); (case aF => exact (fun _ hk => .inr hk)); (case aO => exact Kd.R_mono RX.out (fun _ hk => .inl hk)); (case aB => exact HW3.out.b); (case aS => exact HW3.out.b.size); (case aL => have := HXL.out; omega); intro v43 w6 r43 b6 g6 t6; obtain ⟨xs1, hxs1⟩ : ∃ l, l = xs ++ [1] := ⟨_, rfl⟩; rw [← hxs1] at r43; have HX1 := Aside0.mk (show xs1.length ≤ 9 by have := HXL.out; rw [hxs1]; simp; omega); clear hxs1; have R43 := Aside0.mk r43; have RY6 := Aside0.mk (Kd.R_grown RY.out g6 (fun k hk e => by have h1 : w3.heap.size ≤ k := hk; have h2 : k < w3.heap.size := RX.out.1 k e.symm; omega)); have HW6 := Aside0.mk (Since.mk b6); clear r43 b6 g6 t6)
            | ((with_reducible refine gate_builtin (b := .append) (xs := #[.tmp 44, .tmp 45]) rfl ?_); at_builtin; refine Kd.R_append (Kd.int .i64) (w0 := w2) w2.heap.size rfl (.tmp 44) (.tmp 45) 22 3 (.int .i64 0) 8 rfl Try.underlying22 info3 rfl (by decide) (by omega) (.slice A8 y.length c8) ys 1 [.int .i64 1] (fun _ => True) (fun _ => False) rfl rfl ?aP (fun _ hk => hk.elim) ?aF ?aO ?aB ?aS ?aL ?_; (case aP => exact rfl); (case aF => exact (fun _ hk => trivial)); (case aO => exact Kd.R_mono RY6.out (fun _ hk => trivial)); (case aB => exact HW6.out.b); (case aS => exact HW6.out.b.size); (case aL => have := HYL.out; omega); intro v46 w7 r46 b7 g7 t7; obtain ⟨ys1, hys1⟩ : ∃ l, l = ys ++ [1] := ⟨_, rfl⟩; rw [← hys1] at r46; have HY1 := Aside0.mk (show ys1.length ≤ 9 by have := HYL.out; rw [hys1]; simp; omega); clear hys1; have R46 := Aside0.mk r46; have HW7 := Aside0.mk (Since.mk b7); have R47 := Aside0.mk (Kd.R_grown R43.out g7 (fun k hk e => by have h1 : k < w3.heap.size ∨ W5.heap.size ≤ k := hk; have h2 : w3.heap.size ≤ k := RY.out.1 k e.symm; have h3 : k < W5.heap.size := ((Kd.R_bound RY.out).1 k e.symm).2.2.1; omega)); obtain ⟨A43, c43, e43, s43⟩ := R_sl R47.out; subst e43; obtain ⟨A46, c46, e46, s46⟩ := R_sl R46.out; subst e46; have S46 := Aside0.mk s46; clear r46 b7 g7 t7 s43 s46)
            | ((with_reducible refine gate_builtin (b := .append) (xs := #[.tmp 43, .tmp 46]) rfl ?_); at_builtin; refine Kd.R_append_row (Value.int .i64) (0 : Int) (h1 := fun _ => rfl) (w0 := w2) w2.heap.size rfl (.tmp 43) (.tmp 46) 22 3 (.int .i64 0) 8 rfl Try.underlying22 info3 rfl (by omega) (.slice A43 xs1.length c43) xs1 ys1 A46 ys1.length c46 (fun _ => True) rfl rfl (fun _ _ => trivial) (Kd.R_mono R47.out (fun _ _ => trivial)) S46.out.C HW7.out.b HW7.out.b.size (by have := HX1.out; have := HY1.out; omega) ?_; intro v47 w8 r47 b8 g8 t8; have HW8 := Aside0.mk (Since.mk b8); clear r47 b8 g8 t8)
            | (go_at_call 15; ((with_reducible refine (f15.out A5 c5 _ ?s1).mono ?_); (case s1 => exact Since.sl HW8.out S5.out); rintro e w9 ⟨rfl, hd⟩; have HW9 := Aside0.mk (HW8.out.trans (Since.ofDrawn hd)); clear hd))
            | (go_at_call 12; ((with_reducible refine (same_self A5 c5 o A0 c0 _ ?s1 ?s2 so).mono ?_); (case s1 => exact Since.sl HW9.out S5.out); (case s2 => exact Since.sl (HW.out.trans HW9.out) h0); rintro e w10 ⟨rfl, hd⟩; have HW10 := Aside0.mk (HW9.out.trans (Since.ofDrawn hd)); clear hd))
            | (go_at_call 12; ((with_reducible refine (same_self A6 c6 a A1 c1 _ ?s1 ?s2 sa).mono ?_); (case s1 => exact Since.sl HW10.out S6.out); (case s2 => exact Since.sl (HW.out.trans HW10.out) h1); rintro e w11 ⟨rfl, hd⟩; have HW11 := Aside0.mk (HW10.out.trans (Since.ofDrawn hd)); clear hd))
            | (go_at_call 10; refine (alive_calls _).mono ?_; rintro e w12 ⟨rfl, hb⟩; have HW12 := Aside0.mk (HW11.out.step hb)))
          all_goals go_ret
          all_goals exact ⟨rfl, (HW.out.trans HW12.out).b⟩

/-- The law TupleOwn answers true. -/
theorem own_law_calls (A0 : Option Addr) (c0 : Nat) (o : List Int) {W : World} (h0 : Sl W A0 c0 o) (_ : ∀ x ∈ o, (Lit.int .i64 x).wf = true) (y0 : o.length * 8 ≤ 140737488351232) (A1 : Option Addr) (c1 : Nat) (a : List Int) (h1 : Sl W A1 c1 a) (_ : ∀ x ∈ a, (Lit.int .i64 x).wf = true) (y1 : a.length * 8 ≤ 140737488351232) (w : World) (hw : w = W) :
    Calls Try.prog 7 #[.slice A0 o.length c0, .slice A1 a.length c1] w fun e w' => e = .returned (.bool true) ∧ Below w.heap.size w w' := by
  subst hw
  rcases colsS_err o with h | h
  · exact own_calls A0 c0 o A1 c1 a w h0 h1 y0 y1 0 (.inl rfl) (colsS o).1 (by rw [← h])
  · exact own_calls A0 c0 o A1 c1 a w h0 h1 y0 y1 1 (.inr ⟨rfl, rfl⟩) (colsS o).1 (by rw [← h])

end Go.Proofs.Ytcblhohfnmmaeaa.Tup
