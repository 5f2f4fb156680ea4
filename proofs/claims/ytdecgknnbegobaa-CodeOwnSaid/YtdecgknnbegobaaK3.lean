/- The checker: instr, in one. Check's look at the widths. What an instruction takes is small. Check. How numbers are written: plain. How signed numbers are written: plain. The row of bytes that Encode writes. A program's bytes: plain. What Check's yes says of texts. Encode. The row of bytes: to and from its cells. append to a full row that is read: a row of the call's own comes. counted behind the literal VB1. Encode of a program that may be. -/
import Derived.Test.YtdecgknnbegobaaK2
import Derived.Lib.SmallJoins
import Derived.Deep.RegionHeld3
namespace Go.Proofs.Ytdecgknnbegobaa.Cd
open Go.RowKit Go.Lib Go.Maps Go.Proofs.Ytdecgknnbegobaa.D Go.Proofs.YtdecgknnbegobaaW.PrintWords Go.Proofs.YtdecgknnbegobaaW.PrintLast Go.Proofs.YtdecgknnbegobaaW.PrintMore
set_option linter.unusedVariables false
set_option linter.unusedSimpArgs false

section
variable {w0 w : World} {bw bm : Nat} {A0 : Option Addr} {c0 : Nat} {ws : List Int} {rg : Int} {A2 : Option Addr} {n2 c2 : Nat} {n : Nat} {D : Dm} {ve vj : Value} {ev : List Bool} {jm : List Int}
/-- What instr answers, and leaves. -/
def InsR (w0 w : World) (bw bm : Nat) (A0 : Option Addr) (c0 : Nat) (ws : List Int) (rg : Int) (A2 : Option Addr) (n2 c2 n : Nat) (D : Dm) (ve : Value) (ev : List Bool) (jm : List Int) (x : S39) (e : Ending) (w' : World) : Prop :=
  e = .returned (.tuple #[.int .i64 (insT ws rg D x).1, .int .i64 (insT ws rg D x).2.1, .bool (insT ws rg D x).2.2]) ∧ Since w0 w' ∧ KeptT w w' ∧ ((insT ws rg D x).2.2 = true → ∃ vj' n', n' ≤ n + 1 ∧ Ck w0 w' bw bm A0 c0 ws rg A2 n2 c2 n' (insD x D) ve vj' ev (insJ x jm))
theorem InsR.no {x : S39} {e : Ending} {w' : World} (h : insB ws rg D x = false) (g : InsNo w0 w e w') : InsR w0 w bw bm A0 c0 ws rg A2 n2 c2 n D ve ev jm x e w' := by
  have e1 : insT ws rg D x = (0, 0, false) := by unfold insT; rw [if_pos h]
  unfold InsR
  rw [e1]
  exact ⟨g.1, g.2.1, g.2.2, fun h => by cases h⟩
theorem InsR.yes {x : S39} {e : Ending} {w' : World} {t p : Int} {ok : Bool} {D' : Dm} (h : insT ws rg D x = (t, p, ok)) (hD : insD x D = D') (g : InsYes w0 w bw bm A0 c0 ws rg A2 n2 c2 n D ve ev (insJ x jm) t p ok e w' ∨ InsYes w0 w bw bm A0 c0 ws rg A2 n2 c2 n D' ve ev (insJ x jm) t p ok e w') (hDD : D' = D ∨ InsYes w0 w bw bm A0 c0 ws rg A2 n2 c2 n D' ve ev (insJ x jm) t p ok e w') : InsR w0 w bw bm A0 c0 ws rg A2 n2 c2 n D ve ev jm x e w' := by
  have g' : InsYes w0 w bw bm A0 c0 ws rg A2 n2 c2 n D' ve ev (insJ x jm) t p ok e w' := by
    rcases hDD with rfl | h
    · exact g.elim id id
    · exact h
  obtain ⟨h1, ⟨vj', n', hn, hc⟩, hk⟩ := g'
  unfold InsR
  rw [h, hD]
  exact ⟨h1, hc.since, hk, fun _ => ⟨vj', n', hn, hc⟩⟩
theorem instr_calls (h : Ck w0 w bw bm A0 c0 ws rg A2 n2 c2 n D ve vj ev jm) (hj : jm.length ≤ 50000) (hn : n ≤ 50000) (x : S39) (hx : x.f4.size ≤ 9223372036854775800) :
    Calls Try.prog 23 #[.pointer (some ⟨bw, 0, none⟩), agI x] w (InsR w0 w bw bm A0 c0 ws rg A2 n2 c2 n D ve ev jm x) := by
  by_cases q0 : plF x.f0 < 0
  · exact (instr_no0 h hj hn x hx q0 trivial trivial trivial trivial).mono fun e w' g => InsR.no (by unfold insB; rw [decide_eq_true q0]; rfl) g
  have p0 : 0 ≤ plF x.f0 := by omega
  have d0 : decide (plF x.f0 < 0) = false := decide_eq_false q0
  cases q1 : numB ws rg D (fmF x.f0).f3 x.f1 x with
  | false => exact (instr_no1 h hj hn x hx p0 q1 trivial trivial trivial).mono fun e w' g => InsR.no (by unfold insB; rw [q1, d0]; rfl) g
  | true =>
  cases q2 : numB ws rg D (fmF x.f0).f4 x.f2 x with
  | false => exact (instr_no2 h hj hn x hx p0 q1 q2 trivial trivial).mono fun e w' g => InsR.no (by unfold insB; rw [q1, q2, d0]; rfl) g
  | true =>
  cases q3 : numB ws rg D (fmF x.f0).f5 x.f3 x with
  | false => exact (instr_no3 h hj hn x hx p0 q1 q2 q3 trivial).mono fun e w' g => InsR.no (by unfold insB; rw [q1, q2, q3, d0]; rfl) g
  | true =>
  cases q4 : textB (fmF x.f0).f6 x.f4 with
  | false => exact (instr_no4 h hj hn x hx p0 q1 q2 q3 q4).mono fun e w' g => InsR.no (by unfold insB; rw [q1, q2, q3, q4, d0]; rfl) g
  | true =>
  have hB : ¬ insB ws rg D x = false := by unfold insB; rw [q1, q2, q3, q4, d0]; decide
  have ne : ∀ {a b : List UInt8}, (x.f0.toList == a) = true → a ≠ b → (x.f0.toList == b) = false := fun {a b} h hab => by
    rw [eq_of_beq h]; simpa using hab
  cases o1 : x.f0.toList == [99, 111, 110] with
  | true =>
    have i2 : isOp x.f0 [111, 112, 101, 110] = false := ne o1 (by decide)
    refine (instr_con h hj hn x hx p0 q1 q2 q3 q4 o1).mono fun e w' g => InsR.yes (D' := D) ?_ (by unfold insD; rw [i2]; rfl) (.inl g) (.inl rfl)
    unfold insT
    rw [if_neg hB, if_pos (show isOp x.f0 [99, 111, 110] = true from o1)]
  | false =>
  have n1 : ¬ isOp x.f0 [99, 111, 110] = true := by unfold isOp; rw [o1]; decide
  cases o2 : x.f0.toList == [111, 112, 101, 110] with
  | true =>
    refine (instr_open h hj hn x hx p0 q1 q2 q3 q4 o1 o2 (ne o2 (by decide)) (ne o2 (by decide)) (ne o2 (by decide)) (ne o2 (by decide)) (ne o2 (by decide))).mono fun e w' g => InsR.yes ?_ (by unfold insD; rw [if_pos (show isOp x.f0 [111, 112, 101, 110] = true from o2)]) (.inr g) (.inr g)
    unfold insT
    rw [if_neg hB, if_neg n1, if_pos (show isOp x.f0 [111, 112, 101, 110] = true from o2)]
  | false =>
  have n2' : ¬ isOp x.f0 [111, 112, 101, 110] = true := by unfold isOp; rw [o2]; decide
  have hD : insD x D = D := by unfold insD; rw [if_neg n2']
  cases o3 : x.f0.toList == [104, 97, 115] with
  | true =>
    refine (instr_has h hj hn x hx p0 q1 q2 q3 q4 o1 o2 o3 (ne o3 (by decide)) (ne o3 (by decide)) (ne o3 (by decide)) (ne o3 (by decide))).mono fun e w' g => InsR.yes ?_ hD (.inl g) (.inl rfl)
    unfold insT
    rw [if_neg hB, if_neg n1, if_neg n2', if_pos (by unfold isOp; rw [o3]; rfl)]
  | false =>
  cases o4 : x.f0.toList == [110, 111, 116] with
  | true =>
    refine (instr_not h hj hn x hx p0 q1 q2 q3 q4 o1 o2 o3 o4 (ne o4 (by decide)) (ne o4 (by decide)) (ne o4 (by decide))).mono fun e w' g => InsR.yes ?_ hD (.inl g) (.inl rfl)
    unfold insT
    rw [if_neg hB, if_neg n1, if_neg n2', if_pos (by unfold isOp; rw [o3, o4]; rfl)]
  | false =>
  cases o5 : x.f0.toList == [112, 117, 116] with
  | true =>
    refine (instr_put h hj hn x hx p0 q1 q2 q3 q4 o1 o2 o3 o4 o5 (ne o5 (by decide)) (ne o5 (by decide))).mono fun e w' g => InsR.yes ?_ hD (.inl g) (.inl rfl)
    unfold insT
    rw [if_neg hB, if_neg n1, if_neg n2', if_pos (by unfold isOp; rw [o3, o4, o5]; rfl)]
  | false =>
  have n3 : ¬ (isOp x.f0 [104, 97, 115] || isOp x.f0 [110, 111, 116] || isOp x.f0 [112, 117, 116]) = true := by unfold isOp; rw [o3, o4, o5]; decide
  cases o6 : x.f0.toList == [115, 119, 97, 112] with
  | true =>
    refine (instr_swap h hj hn x hx p0 q1 q2 q3 q4 o1 o2 o3 o4 o5 o6 (ne o6 (by decide))).mono fun e w' g => InsR.yes ?_ hD (.inl g) (.inl rfl)
    unfold insT
    rw [if_neg hB, if_neg n1, if_neg n2', if_neg n3, if_pos (by unfold isOp; rw [o6]; rfl)]
  | false =>
  cases o7 : x.f0.toList == [109, 101, 114, 103, 101] with
  | true =>
    refine (instr_merge h hj hn x hx p0 q1 q2 q3 q4 o1 o2 o3 o4 o5 o6 o7).mono fun e w' g => InsR.yes ?_ hD (.inl g) (.inl rfl)
    unfold insT
    rw [if_neg hB, if_neg n1, if_neg n2', if_neg n3, if_pos (by unfold isOp; rw [o6, o7]; rfl)]
  | false =>
    refine (instr_oth h hj hn x hx p0 q1 q2 q3 q4 o1 o2 o3 o4 o5 o6 o7).mono fun e w' g => InsR.yes ?_ hD (.inl g) (.inl rfl)
    unfold insT
    rw [if_neg hB, if_neg n1, if_neg n2', if_neg n3, if_neg (by unfold isOp; rw [o6, o7]; decide)]
end
end Go.Proofs.Ytdecgknnbegobaa.Cd

namespace Go.Proofs.Ytdecgknnbegobaa.Cd
open Go.RowKit Go.Lib Go.Maps Go.Proofs.Ytdecgknnbegobaa.D Go.Proofs.YtdecgknnbegobaaW.PrintWords Go.Proofs.YtdecgknnbegobaaW.PrintLast Go.Proofs.YtdecgknnbegobaaW.PrintMore
set_option linter.unusedVariables false
set_option linter.unusedSimpArgs false

def badW (v : Int) : Bool := decide (v < 0) || decide (v > 8)
set_option maxHeartbeats 1000000 in
set_option maxRecDepth 100000 in
theorem bad_calls (W : World) (v : Int) : Calls Try.prog 22 #[.int .i64 v] W fun e w' => e = .returned (.bool (badW v)) ∧ Since W w' := by
  by_cases h1 : v < 0
  · have e : badW v = true := by unfold badW; rw [decide_eq_true h1]; rfl
    rw [e]
    go_enter Try.func22, Try.ntmps22
    go_wp2
    go_ret
    exact ⟨rfl, Since.refl _⟩
  · by_cases h2 : v > 8
    · have e : badW v = true := by unfold badW; rw [decide_eq_false h1, decide_eq_true h2]; rfl
      rw [e]
      go_enter Try.func22, Try.ntmps22
      go_wp2
      go_ret
      exact ⟨rfl, Since.refl _⟩
    · have e : badW v = false := by unfold badW; rw [decide_eq_false h1, decide_eq_false h2]; rfl
      rw [e]
      go_enter Try.func22, Try.ntmps22
      go_wp2
      go_ret
      exact ⟨rfl, Since.refl _⟩

set_option maxHeartbeats 4000000 in
set_option maxRecDepth 100000 in
theorem idx_bad (W : World) (A : Option Addr) (c : Nat) (L : List Int) (hC : Kd.C (Kd.int .i64) W A L.length L) (hL : L.length ≤ 1000) :
    Calls Try.prog 33 #[.slice A L.length c, .func (.func 22) #[] #[]] W fun e w' => ∃ r : Int, e = .returned (.int .i64 r) ∧ (decide (r ≥ 0) = L.any badW) ∧ Since W w' := by
  obtain ⟨n, hn⟩ : ∃ n, n = L.length := ⟨_, rfl⟩
  have HN := Aside0.mk hn
  have hn1 : n ≤ 1000 := by omega
  have HC := Aside0.mk hC
  rw [← hn] at HC ⊢
  clear hC hn hL
  go_enter Try.func33, Try.ntmps33
  go_wp2_with fail
  go_loopg [8] n (fun gk v8 wr => ∃ i : Nat, v8 = .int .i64 (i : Int) ∧ Aside0 (i + gk = n) ∧ Aside0 (L.any badW = (L.drop i).any badW) ∧ Aside0 (Since W wr))
  case atStart => exact ⟨0, rfl, ⟨by omega⟩, ⟨rfl⟩, ⟨Since.refl _⟩⟩
  case round =>
    obtain ⟨i, rfl, HI, HF, HS⟩ := hrel
    by_cases hi : i < n
    · have hid : decide (i < n) = true := decide_eq_true hi
      have hii : (i : Int) < (n : Int) := by omega
      have hil : i < L.length := by rw [← HN.out]; exact hi
      obtain ⟨ad, cs, rfl, hl, hK, hcl⟩ := Kd.C_get (Kd.C_below HC.out HS.out.b) (0 : Int) (i : Int) (by omega) (by omega)
      obtain ⟨x, hx⟩ : ∃ x, x = L[i] := ⟨_, rfl⟩
      have hce : cs = [.int .i64 x] := by
        have h2 : cs = [.int .i64 (L.getD ((i : Int)).toNat 0)] := hK
        rw [h2, hx]; simp [hil]
      subst hce
      have hcell : wr.cell? (ad.add i) = some (.int .i64 x) := by simpa [Kd.int, Kd.scalar] using hcl 0 _ rfl
      have hd : L.drop i = x :: L.drop (i + 1) := by rw [hx]; exact List.drop_eq_getElem_cons hil
      have HD := Aside0.mk hd
      have hCl := Aside0.mk (bad_calls wr x)
      obtain ⟨q, hq⟩ : ∃ q, q = badW x := ⟨_, rfl⟩
      rw [← hq] at hCl
      have HQ := Aside0.mk hq
      clear hq hd hx hK hcl hl
      cases q with
      | true =>
        go_wp2_with (first
          | (go_at_call 22; refine hCl.out.mono ?_; rintro e w4 ⟨rfl, hs4⟩; have HS4 := Aside0.mk (HS.out.trans hs4); clear hs4))
        go_ret
        refine ⟨(i : Int), rfl, ?_, HS4.out⟩
        rw [HF.out, HD.out, List.any_cons, ← HQ.out, decide_eq_true (by omega)]
        rfl
      | false =>
        go_wp2_with (first
          | (go_at_call 22; refine hCl.out.mono ?_; rintro e w4 ⟨rfl, hs4⟩; have HS4 := Aside0.mk (HS.out.trans hs4); clear hs4))
        obtain ⟨k2, hk2⟩ : ∃ k2, k2 = gk - 1 := ⟨_, rfl⟩
        go_roundg k2
        case measure => have := HI.out; omega
        case rel => exact ⟨i + 1, by go_num, ⟨by have := HI.out; omega⟩, ⟨by rw [HF.out, HD.out, List.any_cons, ← HQ.out]; rfl⟩, HS4⟩
    · have hid : decide (i < n) = false := decide_eq_false hi
      have hii : ¬ (i : Int) < (n : Int) := by omega
      go_wp2
      go_ret
      refine ⟨-1, rfl, ?_, HS.out⟩
      rw [HF.out, List.drop_eq_nil_of_le (by rw [← HN.out]; omega)]
      rfl
set_option maxHeartbeats 1000000 in
set_option maxRecDepth 100000 in
theorem contains_calls (W : World) (A : Option Addr) (c : Nat) (L : List Int) (hC : Kd.C (Kd.int .i64) W A L.length L) (hL : L.length ≤ 1000) :
    Calls Try.prog 21 #[.slice A L.length c, .func (.func 22) #[] #[]] W fun e w' => e = .returned (.bool (L.any badW)) ∧ Since W w' := by
  have hI := idx_bad W A c L hC hL
  obtain ⟨q, hq⟩ : ∃ q, q = L.any badW := ⟨_, rfl⟩
  rw [← hq] at hI ⊢
  clear hq
  go_enter Try.func21, Try.ntmps21
  go_wp2_with (go_at_call 33; refine hI.mono ?_; rintro e w1 ⟨r, rfl, hr, hs1⟩; have HR := Aside0.mk hr; have hS1 := Aside0.mk hs1; clear hr hs1)
  go_ret
  exact ⟨by rw [← HR.out]; rfl, hS1.out⟩

end Go.Proofs.Ytdecgknnbegobaa.Cd

namespace Go.Proofs.Ytdecgknnbegobaa.Cd
open Go.RowKit Go.Lib Go.Maps Go.Proofs.Ytdecgknnbegobaa.D Go.Proofs.YtdecgknnbegobaaW.PrintWords Go.Proofs.YtdecgknnbegobaaW.PrintLast Go.Proofs.YtdecgknnbegobaaW.PrintMore
set_option linter.unusedVariables false
set_option linter.unusedSimpArgs false

theorem getD_w8 {ws : List Int} (h : ∀ v ∈ ws, 0 ≤ v ∧ v ≤ 8) (i : Nat) : 0 ≤ ws.getD i 0 ∧ ws.getD i 0 ≤ 8 := by
  by_cases hl : i < ws.length
  · rw [show ws.getD i 0 = ws[i] from by simp [hl]]
    exact h _ (List.getElem_mem hl)
  · rw [show ws.getD i 0 = 0 from by simp [List.getD, List.getElem?_eq_none (by omega : ws.length ≤ i)]]
    omega
theorem insT_range {ws : List Int} (h : ∀ v ∈ ws, 0 ≤ v ∧ v ≤ 8) (rg : Int) (D : Dm) (x : S39) : (-1 ≤ (insT ws rg D x).1 ∧ (insT ws rg D x).1 ≤ 127) ∧ 0 ≤ (insT ws rg D x).2.1 ∧ (insT ws rg D x).2.1 ≤ 1 := by
  have hok := forms_ok x.f0
  obtain ⟨f, hf⟩ : ∃ f, f = fmF x.f0 := ⟨_, rfl⟩
  have hop := fun h => fm_op (op := x.f0) h
  rw [← hf] at hok hop
  simp only [formOk, Bool.and_eq_true, Bool.or_eq_true, decide_eq_true_eq] at hok
  obtain ⟨⟨⟨⟨⟨⟨⟨⟨⟨⟨⟨e1, e2⟩, e3⟩, e4⟩, e5⟩, e6⟩, e7⟩, e8⟩, e9⟩, e10⟩, e11⟩, e12⟩ := hok
  unfold insT
  rw [← hf]
  by_cases hB : insB ws rg D x = false
  · rw [if_pos hB]; exact ⟨by decide, by decide⟩
  rw [if_neg hB]
  by_cases h1 : isOp x.f0 [99, 111, 110] = true
  · rw [if_pos h1]
    have hBB : insB ws rg D x = true := by simpa using hB
    unfold insB at hBB
    rw [← hf] at hBB
    simp only [Bool.and_eq_true] at hBB
    obtain ⟨⟨⟨⟨b0, b1⟩, b2⟩, b3⟩, b4⟩ := hBB
    have hp : 0 ≤ plF x.f0 := by simpa using b0
    have h8 : f.f3 = 8 := by
      rcases e8 with h | h
      · rw [hop hp] at h
        unfold isOp at h1
        rw [h1] at h
        cases h
      · exact eq_of_beq h
    rw [h8] at b1
    unfold numB at b1
    have hA : 0 ≤ x.f1 ∧ x.f1 ≤ 8 := by simpa using b1
    exact ⟨by dsimp only; omega, by dsimp only; omega⟩
  rw [if_neg h1]
  by_cases h2 : isOp x.f0 [111, 112, 101, 110] = true
  · rw [if_pos h2]
    have := onesC_range x.f3
    exact ⟨by dsimp only; omega, by dsimp only; omega⟩
  rw [if_neg h2]
  by_cases h3 : (isOp x.f0 [104, 97, 115] || isOp x.f0 [110, 111, 116] || isOp x.f0 [112, 117, 116]) = true
  · rw [if_pos h3]
    have := getD_w8 h x.f1.toNat
    exact ⟨by dsimp only; omega, by dsimp only; omega⟩
  rw [if_neg h3]
  by_cases h4 : (isOp x.f0 [115, 119, 97, 112] || isOp x.f0 [109, 101, 114, 103, 101]) = true
  · rw [if_pos h4]
    exact ⟨by dsimp only; omega, by dsimp only; omega⟩
  rw [if_neg h4]
  exact ⟨by dsimp only; omega, by dsimp only; omega⟩
theorem insJ_len (x : S39) (jm : List Int) : (insJ x jm).length ≤ jm.length + 3 := by
  unfold insJ
  have h1 := numJ_len (fmF x.f0).f3 x.f1 jm
  have h2 := numJ_len (fmF x.f0).f4 x.f2 (numJ (fmF x.f0).f3 x.f1 jm)
  have h3 := numJ_len (fmF x.f0).f5 x.f3 (numJ (fmF x.f0).f4 x.f2 (numJ (fmF x.f0).f3 x.f1 jm))
  omega

end Go.Proofs.Ytdecgknnbegobaa.Cd

namespace Go.Proofs.Ytdecgknnbegobaa.Cd
open Go.RowKit Go.Lib Go.Maps Go.Proofs.Ytdecgknnbegobaa.D Go.Proofs.YtdecgknnbegobaaW.PrintWords Go.Proofs.YtdecgknnbegobaaW.PrintLast Go.Proofs.YtdecgknnbegobaaW.PrintMore
set_option linter.unusedVariables false
set_option linter.unusedSimpArgs false

/-- The instructions one after the other: which places are asked, and which are even. -/
def runC (ws : List Int) (rg : Int) : List S39 → Dm → List Int → List Bool → Int → Option (List Int × List Bool)
  | [], _, jm, ev, _ => some (jm, ev)
  | x :: xs, D, jm, ev, d => if (insT ws rg D x).2.2 = false ∨ (insT ws rg D x).1 > d ∨ ((insT ws rg D x).2.1 = 0 ∧ (insT ws rg D x).1 ≠ d) then none else if d + ((insT ws rg D x).2.1 - (insT ws rg D x).1) > 64 then none else runC ws rg xs (insD x D) (insJ x jm) (ev ++ [d == 0]) (d + ((insT ws rg D x).2.1 - (insT ws rg D x).1))
/-- Is a place even? -/
def evenAt (ev : List Bool) (p : Int) : Bool := decide (0 ≤ p ∧ p < ev.length) && ev.getD p.toNat false
def lastOk (xs : List S39) : Bool := match xs.getLast? with | none => false | some x => isOp x.f0 [115, 116, 111, 112] || isOp x.f0 [106, 117, 109, 112]
/-- May a program be? -/
def chkB (ws : List Int) (rg : Int) (xs : List S39) : Bool :=
  if ws.length > 128 ∨ rg < 0 ∨ rg > 256 ∨ xs.length = 0 ∨ xs.length > 4096 then false
  else if ws.any badW then false
  else match runC ws rg xs (.map []) [] [] 0 with
    | none => false
    | some (jm, ev) => jm.all (evenAt ev) && lastOk xs

theorem own_cell {w : World} {base : Nat} {e : TypeId} {n c : Nat} {A : Option Addr} {xs : List Value} (h : w.ownsRow base e 1 (.slice A n c) n xs) (j : Nat) (v : Value) (hv : xs[j]? = some v) : ∃ ad, A = some ad ∧ w.cell? (ad.add j) = some v := by
  have hl : xs.length = n := by have := h.1; omega
  have hj := (List.getElem?_eq_some_iff.1 hv).1
  rcases h.2 with ⟨_, h2⟩ | ⟨g, cap, cur, e1, _⟩
  · omega
  · injection e1 with a1 a2 a3
    subst a1 a3
    exact ⟨_, rfl, h.cells rfl j v hv⟩
set_option maxHeartbeats 4000000 in
set_option maxRecDepth 100000 in
theorem check_calls (W : World) (A0 : Option Addr) (c0 : Nat) (ws : List Int) (h0 : Sl W A0 c0 ws) (rg : Int) (A2 : Option Addr) (c2 : Nat) (xs : List S39) (h2 : Kd.C k39 W A2 xs.length xs) (hc2 : xs.length ≤ c2) (hx : ∀ x ∈ xs, x.f4.size ≤ 9223372036854775800) :
    Calls Try.prog 12 #[.agg #[.slice A0 ws.length c0, .int .i64 rg, .slice A2 xs.length c2]] W fun e w' => e = .returned (.bool (chkB ws rg xs)) ∧ Since W w' := by
  have hmm := @run_makeMap Try.prog
  by_cases t0 : ws.length > 128 ∨ rg < 0 ∨ rg > 256 ∨ xs.length = 0 ∨ xs.length > 4096
  · have e : chkB ws rg xs = false := by unfold chkB; rw [if_pos t0]
    rw [e]
    clear e
    obtain ⟨m, hm⟩ : ∃ m, m = ws.length := ⟨_, rfl⟩
    obtain ⟨n, hn⟩ : ∃ n, n = xs.length := ⟨_, rfl⟩
    rw [← hm, ← hn] at t0
    rw [← hm, ← hn]
    clear hm hn h0 h2 hc2 hx
    by_cases b1 : (m : Int) > 128
    · go_enter Try.func12, Try.ntmps12
      go_wp2_with fail
      go_ret
      exact ⟨rfl, (Since.refl W).alloc _⟩
    · by_cases b2 : rg < 0
      · go_enter Try.func12, Try.ntmps12
        go_wp2_with fail
        go_ret
        exact ⟨rfl, (Since.refl W).alloc _⟩
      · by_cases b3 : rg > 256
        · go_enter Try.func12, Try.ntmps12
          go_wp2_with fail
          go_ret
          exact ⟨rfl, (Since.refl W).alloc _⟩
        · by_cases b4 : n = 0
          · have b4' : ((n : Int) == 0) = true := by simp [b4]
            go_enter Try.func12, Try.ntmps12
            go_wp2_with fail
            go_ret
            exact ⟨rfl, (Since.refl W).alloc _⟩
          · have b4' : ((n : Int) == 0) = false := by simp [b4]
            have b5 : (n : Int) > 4096 := by omega
            go_enter Try.func12, Try.ntmps12
            go_wp2_with fail
            go_ret
            exact ⟨rfl, (Since.refl W).alloc _⟩
  · by_cases t1 : ws.any badW = true
    · have e : chkB ws rg xs = false := by unfold chkB; rw [if_neg t0, if_pos t1]
      rw [e]
      clear e
      obtain ⟨m, hm⟩ : ∃ m, m = ws.length := ⟨_, rfl⟩
      obtain ⟨n, hn⟩ : ∃ n, n = xs.length := ⟨_, rfl⟩
      have b1 : ¬ (m : Int) > 128 := by omega
      have b2 : ¬ rg < 0 := by omega
      have b3 : ¬ rg > 256 := by omega
      have b4 : ((n : Int) == 0) = false := by simp; omega
      have b5 : ¬ (n : Int) > 4096 := by omega
      rw [← hm, ← hn]
      obtain ⟨V, hV⟩ : ∃ V, V = W.alloc (.cells #[.slice A0 m c0, .int .i64 rg, .slice A2 n c2] 25) := ⟨_, rfl⟩
      have SV := Aside0.mk (show Since W V by rw [hV]; exact (Since.refl W).alloc _)
      have HV := Aside0.mk hV
      have hCt := contains_calls V A0 c0 ws (SV.out.sl h0).C (by omega)
      rw [t1, ← hm] at hCt
      have HCt := Aside0.mk hCt
      clear hm hn h0 h2 hx t0 t1 hV hCt
      go_enter Try.func12, Try.ntmps12
      go_wp2_with (first
        | (go_at_call 21; rw [← HV.out]; refine HCt.out.mono ?_; rintro e1 w1 ⟨rfl, hs1⟩; have S1 := Aside0.mk hs1; clear hs1))
      go_ret
      exact ⟨rfl, SV.out.trans S1.out⟩
    · have e : chkB ws rg xs = match runC ws rg xs (.map []) [] [] 0 with
        | none => false
        | some (jm, ev) => jm.all (evenAt ev) && lastOk xs := by unfold chkB; rw [if_neg t0, if_neg t1]
      obtain ⟨res, hres⟩ : ∃ r, r = chkB ws rg xs := ⟨_, rfl⟩
      rw [← hres] at e ⊢
      have HE := Aside0.mk e
      clear e hres
      have t1' : ws.any badW = false := by simpa using t1
      obtain ⟨m, hm⟩ : ∃ m, m = ws.length := ⟨_, rfl⟩
      obtain ⟨n, hn⟩ : ∃ n, n = xs.length := ⟨_, rfl⟩
      have HM := Aside0.mk (And.intro hm hn)
      have H0 := Aside0.mk h0
      have H2 := Aside0.mk h2
      have HX := Aside0.mk hx
      have HB := Aside0.mk t1'
      have b1 : ¬ (m : Int) > 128 := by omega
      have b2 : ¬ rg < 0 := by omega
      have b3 : ¬ rg > 256 := by omega
      have b4 : ((n : Int) == 0) = false := by simp; omega
      have b5 : ¬ (n : Int) > 4096 := by omega
      have hn1 : n ≤ 4096 := by omega
      have hn0 : 0 < n := by omega
      rw [← hm, ← hn]
      obtain ⟨V, hV⟩ : ∃ V, V = W.alloc (.cells #[.slice A0 m c0, .int .i64 rg, .slice A2 n c2] 25) := ⟨_, rfl⟩
      have SV := Aside0.mk (show Since W V by rw [hV]; exact (Since.refl W).alloc _)
      have BV := Aside0.mk (show V.heap[W.heap.size]? = some (.cells #[.slice A0 m c0, .int .i64 rg, .slice A2 n c2] 25 (0, 0)) by rw [hV]; exact heap_alloc_new W _)
      have HV := Aside0.mk hV
      have hCt := contains_calls V A0 c0 ws (SV.out.sl h0).C (by omega)
      rw [t1', ← hm] at hCt
      have HCt := Aside0.mk hCt
      clear hm hn h0 h2 hx t0 t1 t1' hV hCt
      go_enter Try.func12, Try.ntmps12
      go_wp2_with (first
        | (go_at_call 21; rw [← HV.out]; refine HCt.out.mono ?_; rintro e1 w1 ⟨rfl, hs1⟩; have S1 := Aside0.mk hs1; have hb1 := Cd.blk hs1.b BV.out; have B1 := Aside0.mk hb1; have q0 : w1.cell? ⟨W.heap.size, 0, none⟩ = some (.slice A0 m c0) := (cell_of_heap hb1 0).trans rfl; have q1 : w1.cell? ⟨W.heap.size, 1, none⟩ = some (.int .i64 rg) := (cell_of_heap hb1 1).trans rfl; have q2 : w1.cell? ⟨W.heap.size, 2, none⟩ = some (.slice A2 n c2) := (cell_of_heap hb1 2).trans rfl; have hb2 := blk_alloc (blk_alloc hb1 (.map #[] 0)) (.cells #[.slice A0 m c0, .int .i64 rg, .slice A2 n c2, .map (some w1.heap.size), .slice none 0 0, .slice none 0 0] 63); have B2 := Aside0.mk hb2; have q3 : ((w1.alloc (.map #[] 0)).alloc (.cells #[.slice A0 m c0, .int .i64 rg, .slice A2 n c2, .map (some w1.heap.size), .slice none 0 0, .slice none 0 0] 63)).cell? ⟨W.heap.size, 2, none⟩ = some (.slice A2 n c2) := (cell_of_heap hb2 2).trans rfl; clear hs1 hb1 hb2))
      obtain ⟨w2, hw2⟩ : ∃ w2, w2 = (w1.alloc (.map #[] 0)).alloc (.cells #[.slice A0 m c0, .int .i64 rg, .slice A2 n c2, .map (some w1.heap.size), .slice none 0 0, .slice none 0 0] 63) := ⟨_, rfl⟩
      have S2 := Aside0.mk (show Since W w2 by rw [hw2]; exact ((SV.out.trans S1.out).alloc _).alloc _)
      obtain ⟨bw, hbw⟩ : ∃ b, b = w1.heap.size + 1 := ⟨_, rfl⟩
      have HC0 := Aside0.mk (show Ck W w2 bw w1.heap.size A0 c0 ws rg A2 n c2 0 (.map []) (.slice none 0 0) (.slice none 0 0) [] [] by
        have hbk := heap_alloc_new (w1.alloc (.map #[] 0)) (.cells #[.slice A0 m c0, .int .i64 rg, .slice A2 n c2, .map (some w1.heap.size), .slice none 0 0, .slice none 0 0] 63)
        rw [World.size_alloc] at hbk
        have hmp := (World.ownsMap_made (H := Unit) w1 Try.prog 3 (plainElem Try.prog 3)).alloc (.cells #[.slice A0 m c0, .int .i64 rg, .slice A2 n c2, .map (some w1.heap.size), .slice none 0 0, .slice none 0 0] 63)
        have hz := (SV.out.trans S1.out).b.size
        refine ⟨S2.out, by omega, hz, by rw [hw2, hbw, ← HM.out.1]; exact hbk, H0.out.C, H0.out.le, by have := HM.out.1; omega, fun v hv => ?_, ⟨by omega, by omega⟩, by rw [hw2]; exact hmp, fun a ha => by simp [hasD, Maps.has_eq] at ha, World.ownsRow_nil _ _ _ _, World.ownsRow_nil _ _ _ _⟩
        have hb := HB.out
        rw [List.any_eq_false] at hb
        have := hb v hv
        unfold badW at this
        simp at this
        omega)
      rw [← hbw, ← hw2]
      have B3 := Aside0.mk (show w2.heap[W.heap.size]? = some (.cells #[.slice A0 m c0, .int .i64 rg, .slice A2 n c2] 25 (0, 0)) by rw [hw2]; exact B2.out)
      clear q0 q1 q2 q3 hw2 hbw B2
      go_loopg [4, 49] n (fun gk v4 v49 wr => ∃ (i : Nat) (d : Int), v4 = .int .i64 d ∧ v49 = .int .i64 (i : Int) ∧ Aside0 (i + gk = n ∧ 0 ≤ d ∧ d ≤ 64) ∧ Aside0 (KeptT w2 wr) ∧ Aside0 (∃ D jm ev ve vj k, Ck W wr bw w1.heap.size A0 c0 ws rg A2 n c2 k D ve vj ev jm ∧ k ≤ i ∧ jm.length ≤ 3 * i ∧ ev.length = i ∧ runC ws rg xs (.map []) [] [] 0 = runC ws rg (xs.drop i) D jm ev d))
      case atStart => exact ⟨0, 0, rfl, rfl, ⟨by omega, by omega, by omega⟩, ⟨KeptT.refl _⟩, ⟨_, _, _, _, _, 0, HC0.out, Nat.le_refl _, Nat.le_refl _, rfl, rfl⟩⟩
      case round =>
        obtain ⟨i, d, rfl, rfl, HI, HK, HR⟩ := hrel
        by_cases hi : i < n
        · have hid : decide (i < n) = true := decide_eq_true hi
          have hii : (i : Int) < (n : Int) := by omega
          obtain ⟨D, jm, ev, ve, vj, k, hC, hk, hj, hev, hrun⟩ := HR.out
          have hil : i < xs.length := by rw [← HM.out.2]; exact hi
          obtain ⟨ad, rfl, d0, d1, d2, d3, d4⟩ := at_T39 (Kd.C_below H2.out hC.since.b) (i : Int) (by omega) (by omega)
          obtain ⟨x, hx⟩ : ∃ x, x = rd_T39 xs (i : Int) := ⟨_, rfl⟩
          rw [← hx] at d0 d1 d2 d3 d4
          simp only [Int.toNat_natCast] at d0 d1 d2 d3 d4
          have hxi : x = xs[i] := by rw [hx]; simp [rd_T39, hil]
          have HXS := Aside0.mk (show x.f4.size ≤ 9223372036854775800 by rw [hxi]; exact HX.out _ (List.getElem_mem hil))
          have hdr := Aside0.mk (show xs.drop i = x :: xs.drop (i + 1) by rw [hxi]; exact List.drop_eq_getElem_cons hil)
          obtain ⟨Ae, ce, hve⟩ := own_slice hC.he
          subst hve
          have HJM := Aside0.mk (show jm.length ≤ 12288 ∧ k ≤ 4096 by omega)
          have HEV := Aside0.mk (show ev.length ≤ 4096 by omega)
          obtain ⟨V6, hV6⟩ : ∃ V, V = wr.alloc (.cells #[.string x.f0, .int .i64 x.f1, .int .i64 x.f2, .int .i64 x.f3, .string x.f4] 39) := ⟨_, rfl⟩
          have HV6 := Aside0.mk hV6
          have S6 := Aside0.mk (show Since wr V6 by rw [hV6]; exact (Since.refl wr).alloc _)
          have BX6 := Aside0.mk (show V6.heap[wr.heap.size]? = some (.cells #[.string x.f0, .int .i64 x.f1, .int .i64 x.f2, .int .i64 x.f3, .string x.f4] 39 (0, 0)) by rw [hV6]; exact heap_alloc_new wr _)
          have HVS := Aside0.mk (show V6.heap.size = wr.heap.size + 1 by rw [hV6]; simp)
          have C6 := Aside0.mk (hC.go S6.out)
          have HL8 := Aside0.mk (show (ev.map Value.bool ++ [Value.bool (d == 0)]).length = ev.length + 1 by simp)
          have hc6 := C6.out.c
          obtain ⟨_, _, _, u4, _⟩ := hc6
          rw [hV6] at u4
          have hrg := insT_range hC.w8 rg D x
          have HCC := Aside0.mk hC
          have HKK := Aside0.mk (And.intro hk (And.intro hj (And.intro hev hrun)))
          obtain ⟨t, ht⟩ : ∃ t, t = (insT ws rg D x).1 := ⟨_, rfl⟩
          obtain ⟨p, hp⟩ : ∃ t, t = (insT ws rg D x).2.1 := ⟨_, rfl⟩
          obtain ⟨ok, hok⟩ : ∃ t, t = (insT ws rg D x).2.2 := ⟨_, rfl⟩
          rw [← ht, ← hp] at hrg
          have hw1 : wrap64 (p - t) = p - t := by unfold wrap64; omega
          have hw2 : wrap64 (d + (p - t)) = d + (p - t) := by have := HI.out; unfold wrap64; omega
          have hd := HI.out.2
          clear hx hxi hil hC hV6 hk hj hev hrun
          cases ok with
          | false =>
            have HT := Aside0.mk (And.intro ht (And.intro hp hok.symm))
            clear ht hp hok
            go_wp2_with (first
            | ((with_reducible refine gate_builtin (b := .append) (xs := #[.tmp 57, .tmp 60]) rfl ?_); at_builtin; (rw [← HV6.out]; refine print_append (W := V6) (w0 := W) W.heap.size rfl (.tmp 57) (.tmp 60) 61 4 (.bool false) 1 rfl Try.underlying61 info4 rfl (by decide) (.slice Ae ev.length ce) (ev.map Value.bool) (.bool (d == 0)) rfl (by rw [HVS.out]; rfl) rfl ?aO C6.out.since.b C6.out.since.b.size ?aL ?_; (case aO => rw [List.length_map]; exact C6.out.he); (case aL => rw [List.length_map]; have := HEV.out; omega); intro v7 w7 q7 b7 g7 t7; obtain ⟨A8, c8, hv8⟩ := own_slice q7; rw [HL8.out] at hv8; subst hv8; have HJ := Aside0.mk (C6.out.even (k := d == 0) b7 g7 (by simpa using q7)); have j4 := HJ.out.2.2.1; have f4' := HJ.out.2.2.2; have BX8 := Aside0.mk (HJ.out.2.1.same _ _ 39 (by decide) (by decide) (by decide) BX6.out); have y0 : (w7.setCell ⟨bw, 4, none⟩ (.slice A8 (ev.length + 1) c8)).cell? ⟨wr.heap.size, 0, none⟩ = some (.string x.f0) := (cell_of_heap BX8.out 0).trans rfl; have y1 : (w7.setCell ⟨bw, 4, none⟩ (.slice A8 (ev.length + 1) c8)).cell? ⟨wr.heap.size, 1, none⟩ = some (.int .i64 x.f1) := (cell_of_heap BX8.out 1).trans rfl; have y2 : (w7.setCell ⟨bw, 4, none⟩ (.slice A8 (ev.length + 1) c8)).cell? ⟨wr.heap.size, 2, none⟩ = some (.int .i64 x.f2) := (cell_of_heap BX8.out 2).trans rfl; have y3 : (w7.setCell ⟨bw, 4, none⟩ (.slice A8 (ev.length + 1) c8)).cell? ⟨wr.heap.size, 3, none⟩ = some (.int .i64 x.f3) := (cell_of_heap BX8.out 3).trans rfl; have y4 : (w7.setCell ⟨bw, 4, none⟩ (.slice A8 (ev.length + 1) c8)).cell? ⟨wr.heap.size, 4, none⟩ = some (.string x.f4) := (cell_of_heap BX8.out 4).trans rfl; have C8 := Aside0.mk HJ.out.1; clear q7 b7 g7 t7))
            | (go_at_call 23; have hIn := instr_calls C8.out (by have := HJM.out; omega) (by have := HJM.out; omega) x HXS.out; unfold InsR at hIn; rw [← HT.out.1, ← HT.out.2.1, HT.out.2.2] at hIn; refine hIn.mono ?_; clear hIn; rintro e9 w9 ⟨rfl, hs9, hk9, hc9⟩; have S9 := Aside0.mk hs9; have K9 := Aside0.mk hk9; have C9 := Aside0.mk hc9; clear hs9 hk9 hc9))
            go_ret
            have hno : runC ws rg xs (.map []) [] [] 0 = none := by
              rw [HKK.out.2.2.2, hdr.out]
              unfold runC
              rw [if_pos (.inl HT.out.2.2)]
            have hr := HE.out
            rw [hno] at hr
            exact ⟨by rw [hr]; rfl, S9.out⟩
          | true =>
            have HT := Aside0.mk (And.intro ht (And.intro hp hok.symm))
            clear ht hp hok
            by_cases g1 : t > d
            · go_wp2_with (first
            | ((with_reducible refine gate_builtin (b := .append) (xs := #[.tmp 57, .tmp 60]) rfl ?_); at_builtin; (rw [← HV6.out]; refine print_append (W := V6) (w0 := W) W.heap.size rfl (.tmp 57) (.tmp 60) 61 4 (.bool false) 1 rfl Try.underlying61 info4 rfl (by decide) (.slice Ae ev.length ce) (ev.map Value.bool) (.bool (d == 0)) rfl (by rw [HVS.out]; rfl) rfl ?aO C6.out.since.b C6.out.since.b.size ?aL ?_; (case aO => rw [List.length_map]; exact C6.out.he); (case aL => rw [List.length_map]; have := HEV.out; omega); intro v7 w7 q7 b7 g7 t7; obtain ⟨A8, c8, hv8⟩ := own_slice q7; rw [HL8.out] at hv8; subst hv8; have HJ := Aside0.mk (C6.out.even (k := d == 0) b7 g7 (by simpa using q7)); have j4 := HJ.out.2.2.1; have f4' := HJ.out.2.2.2; have BX8 := Aside0.mk (HJ.out.2.1.same _ _ 39 (by decide) (by decide) (by decide) BX6.out); have y0 : (w7.setCell ⟨bw, 4, none⟩ (.slice A8 (ev.length + 1) c8)).cell? ⟨wr.heap.size, 0, none⟩ = some (.string x.f0) := (cell_of_heap BX8.out 0).trans rfl; have y1 : (w7.setCell ⟨bw, 4, none⟩ (.slice A8 (ev.length + 1) c8)).cell? ⟨wr.heap.size, 1, none⟩ = some (.int .i64 x.f1) := (cell_of_heap BX8.out 1).trans rfl; have y2 : (w7.setCell ⟨bw, 4, none⟩ (.slice A8 (ev.length + 1) c8)).cell? ⟨wr.heap.size, 2, none⟩ = some (.int .i64 x.f2) := (cell_of_heap BX8.out 2).trans rfl; have y3 : (w7.setCell ⟨bw, 4, none⟩ (.slice A8 (ev.length + 1) c8)).cell? ⟨wr.heap.size, 3, none⟩ = some (.int .i64 x.f3) := (cell_of_heap BX8.out 3).trans rfl; have y4 : (w7.setCell ⟨bw, 4, none⟩ (.slice A8 (ev.length + 1) c8)).cell? ⟨wr.heap.size, 4, none⟩ = some (.string x.f4) := (cell_of_heap BX8.out 4).trans rfl; have C8 := Aside0.mk HJ.out.1; clear q7 b7 g7 t7))
            | (go_at_call 23; have hIn := instr_calls C8.out (by have := HJM.out; omega) (by have := HJM.out; omega) x HXS.out; unfold InsR at hIn; rw [← HT.out.1, ← HT.out.2.1, HT.out.2.2] at hIn; refine hIn.mono ?_; clear hIn; rintro e9 w9 ⟨rfl, hs9, hk9, hc9⟩; have S9 := Aside0.mk hs9; have K9 := Aside0.mk hk9; have C9 := Aside0.mk hc9; clear hs9 hk9 hc9))
              go_ret
              have hno : runC ws rg xs (.map []) [] [] 0 = none := by
                rw [HKK.out.2.2.2, hdr.out]
                unfold runC
                rw [if_pos (.inr (.inl (by rw [← HT.out.1]; exact g1)))]
              have hr := HE.out
              rw [hno] at hr
              exact ⟨by rw [hr]; rfl, S9.out⟩
            · by_cases g2 : p = 0
              · have g2' : (p == 0) = true := by simpa using g2
                by_cases g3 : t = d
                · have g3' : (t != d) = false := by simpa using g3
                  have g4 : ¬ d + (p - t) > 64 := by omega
                  go_wp2_with (first
            | ((with_reducible refine gate_builtin (b := .append) (xs := #[.tmp 57, .tmp 60]) rfl ?_); at_builtin; (rw [← HV6.out]; refine print_append (W := V6) (w0 := W) W.heap.size rfl (.tmp 57) (.tmp 60) 61 4 (.bool false) 1 rfl Try.underlying61 info4 rfl (by decide) (.slice Ae ev.length ce) (ev.map Value.bool) (.bool (d == 0)) rfl (by rw [HVS.out]; rfl) rfl ?aO C6.out.since.b C6.out.since.b.size ?aL ?_; (case aO => rw [List.length_map]; exact C6.out.he); (case aL => rw [List.length_map]; have := HEV.out; omega); intro v7 w7 q7 b7 g7 t7; obtain ⟨A8, c8, hv8⟩ := own_slice q7; rw [HL8.out] at hv8; subst hv8; have HJ := Aside0.mk (C6.out.even (k := d == 0) b7 g7 (by simpa using q7)); have j4 := HJ.out.2.2.1; have f4' := HJ.out.2.2.2; have BX8 := Aside0.mk (HJ.out.2.1.same _ _ 39 (by decide) (by decide) (by decide) BX6.out); have y0 : (w7.setCell ⟨bw, 4, none⟩ (.slice A8 (ev.length + 1) c8)).cell? ⟨wr.heap.size, 0, none⟩ = some (.string x.f0) := (cell_of_heap BX8.out 0).trans rfl; have y1 : (w7.setCell ⟨bw, 4, none⟩ (.slice A8 (ev.length + 1) c8)).cell? ⟨wr.heap.size, 1, none⟩ = some (.int .i64 x.f1) := (cell_of_heap BX8.out 1).trans rfl; have y2 : (w7.setCell ⟨bw, 4, none⟩ (.slice A8 (ev.length + 1) c8)).cell? ⟨wr.heap.size, 2, none⟩ = some (.int .i64 x.f2) := (cell_of_heap BX8.out 2).trans rfl; have y3 : (w7.setCell ⟨bw, 4, none⟩ (.slice A8 (ev.length + 1) c8)).cell? ⟨wr.heap.size, 3, none⟩ = some (.int .i64 x.f3) := (cell_of_heap BX8.out 3).trans rfl; have y4 : (w7.setCell ⟨bw, 4, none⟩ (.slice A8 (ev.length + 1) c8)).cell? ⟨wr.heap.size, 4, none⟩ = some (.string x.f4) := (cell_of_heap BX8.out 4).trans rfl; have C8 := Aside0.mk HJ.out.1; clear q7 b7 g7 t7))
            | (go_at_call 23; have hIn := instr_calls C8.out (by have := HJM.out; omega) (by have := HJM.out; omega) x HXS.out; unfold InsR at hIn; rw [← HT.out.1, ← HT.out.2.1, HT.out.2.2] at hIn; refine hIn.mono ?_; clear hIn; rintro e9 w9 ⟨rfl, hs9, hk9, hc9⟩; have S9 := Aside0.mk hs9; have K9 := Aside0.mk hk9; have C9 := Aside0.mk hc9; clear hs9 hk9 hc9))
                  obtain ⟨vj', n', hn', hc'⟩ := C9.out trivial
                  have HCN := Aside0.mk hc'
                  clear hc'
                  obtain ⟨k2, hk2⟩ : ∃ k2, k2 = gk - 1 := ⟨_, rfl⟩
                  go_roundg k2
                  case measure => have := HI.out; omega
                  case rel =>
                    have hjl := insJ_len x jm
                    refine ⟨i + 1, d + (p - t), (by first | rfl | (congr 1; omega)), by go_num, ⟨by have := HI.out; omega, by omega, by omega⟩, ⟨HK.out.trans ((KeptT.since S6.out).trans (HJ.out.2.1.trans K9.out))⟩, ⟨_, _, _, _, _, n', HCN.out, by have := HKK.out; omega, by have := HKK.out; omega, by have := HKK.out; simp; omega, ?_⟩⟩
                    rw [HKK.out.2.2.2, hdr.out, HT.out.1, HT.out.2.1]
                    conv => lhs; unfold runC
                    rw [if_neg ?_, if_neg ?_]
                    · rw [← HT.out.1, ← HT.out.2.1]; omega
                    · rw [← HT.out.1, ← HT.out.2.1, HT.out.2.2]
                      rintro (h | h | h)
                      · cases h
                      · omega
                      · omega
                · have g3' : (t != d) = true := by simpa using g3
                  go_wp2_with (first
            | ((with_reducible refine gate_builtin (b := .append) (xs := #[.tmp 57, .tmp 60]) rfl ?_); at_builtin; (rw [← HV6.out]; refine print_append (W := V6) (w0 := W) W.heap.size rfl (.tmp 57) (.tmp 60) 61 4 (.bool false) 1 rfl Try.underlying61 info4 rfl (by decide) (.slice Ae ev.length ce) (ev.map Value.bool) (.bool (d == 0)) rfl (by rw [HVS.out]; rfl) rfl ?aO C6.out.since.b C6.out.since.b.size ?aL ?_; (case aO => rw [List.length_map]; exact C6.out.he); (case aL => rw [List.length_map]; have := HEV.out; omega); intro v7 w7 q7 b7 g7 t7; obtain ⟨A8, c8, hv8⟩ := own_slice q7; rw [HL8.out] at hv8; subst hv8; have HJ := Aside0.mk (C6.out.even (k := d == 0) b7 g7 (by simpa using q7)); have j4 := HJ.out.2.2.1; have f4' := HJ.out.2.2.2; have BX8 := Aside0.mk (HJ.out.2.1.same _ _ 39 (by decide) (by decide) (by decide) BX6.out); have y0 : (w7.setCell ⟨bw, 4, none⟩ (.slice A8 (ev.length + 1) c8)).cell? ⟨wr.heap.size, 0, none⟩ = some (.string x.f0) := (cell_of_heap BX8.out 0).trans rfl; have y1 : (w7.setCell ⟨bw, 4, none⟩ (.slice A8 (ev.length + 1) c8)).cell? ⟨wr.heap.size, 1, none⟩ = some (.int .i64 x.f1) := (cell_of_heap BX8.out 1).trans rfl; have y2 : (w7.setCell ⟨bw, 4, none⟩ (.slice A8 (ev.length + 1) c8)).cell? ⟨wr.heap.size, 2, none⟩ = some (.int .i64 x.f2) := (cell_of_heap BX8.out 2).trans rfl; have y3 : (w7.setCell ⟨bw, 4, none⟩ (.slice A8 (ev.length + 1) c8)).cell? ⟨wr.heap.size, 3, none⟩ = some (.int .i64 x.f3) := (cell_of_heap BX8.out 3).trans rfl; have y4 : (w7.setCell ⟨bw, 4, none⟩ (.slice A8 (ev.length + 1) c8)).cell? ⟨wr.heap.size, 4, none⟩ = some (.string x.f4) := (cell_of_heap BX8.out 4).trans rfl; have C8 := Aside0.mk HJ.out.1; clear q7 b7 g7 t7))
            | (go_at_call 23; have hIn := instr_calls C8.out (by have := HJM.out; omega) (by have := HJM.out; omega) x HXS.out; unfold InsR at hIn; rw [← HT.out.1, ← HT.out.2.1, HT.out.2.2] at hIn; refine hIn.mono ?_; clear hIn; rintro e9 w9 ⟨rfl, hs9, hk9, hc9⟩; have S9 := Aside0.mk hs9; have K9 := Aside0.mk hk9; have C9 := Aside0.mk hc9; clear hs9 hk9 hc9))
                  go_ret
                  have hno : runC ws rg xs (.map []) [] [] 0 = none := by
                    rw [HKK.out.2.2.2, hdr.out]
                    unfold runC
                    rw [if_pos (.inr (.inr ⟨by rw [← HT.out.2.1]; exact g2, by rw [← HT.out.1]; exact g3⟩))]
                  have hr := HE.out
                  rw [hno] at hr
                  exact ⟨by rw [hr]; rfl, S9.out⟩
              · have g2' : (p == 0) = false := by simpa using g2
                by_cases g4 : d + (p - t) > 64
                · go_wp2_with (first
            | ((with_reducible refine gate_builtin (b := .append) (xs := #[.tmp 57, .tmp 60]) rfl ?_); at_builtin; (rw [← HV6.out]; refine print_append (W := V6) (w0 := W) W.heap.size rfl (.tmp 57) (.tmp 60) 61 4 (.bool false) 1 rfl Try.underlying61 info4 rfl (by decide) (.slice Ae ev.length ce) (ev.map Value.bool) (.bool (d == 0)) rfl (by rw [HVS.out]; rfl) rfl ?aO C6.out.since.b C6.out.since.b.size ?aL ?_; (case aO => rw [List.length_map]; exact C6.out.he); (case aL => rw [List.length_map]; have := HEV.out; omega); intro v7 w7 q7 b7 g7 t7; obtain ⟨A8, c8, hv8⟩ := own_slice q7; rw [HL8.out] at hv8; subst hv8; have HJ := Aside0.mk (C6.out.even (k := d == 0) b7 g7 (by simpa using q7)); have j4 := HJ.out.2.2.1; have f4' := HJ.out.2.2.2; have BX8 := Aside0.mk (HJ.out.2.1.same _ _ 39 (by decide) (by decide) (by decide) BX6.out); have y0 : (w7.setCell ⟨bw, 4, none⟩ (.slice A8 (ev.length + 1) c8)).cell? ⟨wr.heap.size, 0, none⟩ = some (.string x.f0) := (cell_of_heap BX8.out 0).trans rfl; have y1 : (w7.setCell ⟨bw, 4, none⟩ (.slice A8 (ev.length + 1) c8)).cell? ⟨wr.heap.size, 1, none⟩ = some (.int .i64 x.f1) := (cell_of_heap BX8.out 1).trans rfl; have y2 : (w7.setCell ⟨bw, 4, none⟩ (.slice A8 (ev.length + 1) c8)).cell? ⟨wr.heap.size, 2, none⟩ = some (.int .i64 x.f2) := (cell_of_heap BX8.out 2).trans rfl; have y3 : (w7.setCell ⟨bw, 4, none⟩ (.slice A8 (ev.length + 1) c8)).cell? ⟨wr.heap.size, 3, none⟩ = some (.int .i64 x.f3) := (cell_of_heap BX8.out 3).trans rfl; have y4 : (w7.setCell ⟨bw, 4, none⟩ (.slice A8 (ev.length + 1) c8)).cell? ⟨wr.heap.size, 4, none⟩ = some (.string x.f4) := (cell_of_heap BX8.out 4).trans rfl; have C8 := Aside0.mk HJ.out.1; clear q7 b7 g7 t7))
            | (go_at_call 23; have hIn := instr_calls C8.out (by have := HJM.out; omega) (by have := HJM.out; omega) x HXS.out; unfold InsR at hIn; rw [← HT.out.1, ← HT.out.2.1, HT.out.2.2] at hIn; refine hIn.mono ?_; clear hIn; rintro e9 w9 ⟨rfl, hs9, hk9, hc9⟩; have S9 := Aside0.mk hs9; have K9 := Aside0.mk hk9; have C9 := Aside0.mk hc9; clear hs9 hk9 hc9))
                  go_ret
                  have hno : runC ws rg xs (.map []) [] [] 0 = none := by
                    rw [HKK.out.2.2.2, hdr.out]
                    unfold runC
                    rw [if_neg (by rw [← HT.out.1, ← HT.out.2.1, HT.out.2.2]; rintro (h | h | h); cases h; omega; omega), if_pos (by rw [← HT.out.1, ← HT.out.2.1]; exact g4)]
                  have hr := HE.out
                  rw [hno] at hr
                  exact ⟨by rw [hr]; rfl, S9.out⟩
                · skip
                  go_wp2_with (first
            | ((with_reducible refine gate_builtin (b := .append) (xs := #[.tmp 57, .tmp 60]) rfl ?_); at_builtin; (rw [← HV6.out]; refine print_append (W := V6) (w0 := W) W.heap.size rfl (.tmp 57) (.tmp 60) 61 4 (.bool false) 1 rfl Try.underlying61 info4 rfl (by decide) (.slice Ae ev.length ce) (ev.map Value.bool) (.bool (d == 0)) rfl (by rw [HVS.out]; rfl) rfl ?aO C6.out.since.b C6.out.since.b.size ?aL ?_; (case aO => rw [List.length_map]; exact C6.out.he); (case aL => rw [List.length_map]; have := HEV.out; omega); intro v7 w7 q7 b7 g7 t7; obtain ⟨A8, c8, hv8⟩ := own_slice q7; rw [HL8.out] at hv8; subst hv8; have HJ := Aside0.mk (C6.out.even (k := d == 0) b7 g7 (by simpa using q7)); have j4 := HJ.out.2.2.1; have f4' := HJ.out.2.2.2; have BX8 := Aside0.mk (HJ.out.2.1.same _ _ 39 (by decide) (by decide) (by decide) BX6.out); have y0 : (w7.setCell ⟨bw, 4, none⟩ (.slice A8 (ev.length + 1) c8)).cell? ⟨wr.heap.size, 0, none⟩ = some (.string x.f0) := (cell_of_heap BX8.out 0).trans rfl; have y1 : (w7.setCell ⟨bw, 4, none⟩ (.slice A8 (ev.length + 1) c8)).cell? ⟨wr.heap.size, 1, none⟩ = some (.int .i64 x.f1) := (cell_of_heap BX8.out 1).trans rfl; have y2 : (w7.setCell ⟨bw, 4, none⟩ (.slice A8 (ev.length + 1) c8)).cell? ⟨wr.heap.size, 2, none⟩ = some (.int .i64 x.f2) := (cell_of_heap BX8.out 2).trans rfl; have y3 : (w7.setCell ⟨bw, 4, none⟩ (.slice A8 (ev.length + 1) c8)).cell? ⟨wr.heap.size, 3, none⟩ = some (.int .i64 x.f3) := (cell_of_heap BX8.out 3).trans rfl; have y4 : (w7.setCell ⟨bw, 4, none⟩ (.slice A8 (ev.length + 1) c8)).cell? ⟨wr.heap.size, 4, none⟩ = some (.string x.f4) := (cell_of_heap BX8.out 4).trans rfl; have C8 := Aside0.mk HJ.out.1; clear q7 b7 g7 t7))
            | (go_at_call 23; have hIn := instr_calls C8.out (by have := HJM.out; omega) (by have := HJM.out; omega) x HXS.out; unfold InsR at hIn; rw [← HT.out.1, ← HT.out.2.1, HT.out.2.2] at hIn; refine hIn.mono ?_; clear hIn; rintro e9 w9 ⟨rfl, hs9, hk9, hc9⟩; have S9 := Aside0.mk hs9; have K9 := Aside0.mk hk9; have C9 := Aside0.mk hc9; clear hs9 hk9 hc9))
                  obtain ⟨vj', n', hn', hc'⟩ := C9.out trivial
                  have HCN := Aside0.mk hc'
                  clear hc'
                  obtain ⟨k2, hk2⟩ : ∃ k2, k2 = gk - 1 := ⟨_, rfl⟩
                  go_roundg k2
                  case measure => have := HI.out; omega
                  case rel =>
                    have hjl := insJ_len x jm
                    refine ⟨i + 1, d + (p - t), (by first | rfl | (congr 1; omega)), by go_num, ⟨by have := HI.out; omega, by omega, by omega⟩, ⟨HK.out.trans ((KeptT.since S6.out).trans (HJ.out.2.1.trans K9.out))⟩, ⟨_, _, _, _, _, n', HCN.out, by have := HKK.out; omega, by have := HKK.out; omega, by have := HKK.out; simp; omega, ?_⟩⟩
                    rw [HKK.out.2.2.2, hdr.out, HT.out.1, HT.out.2.1]
                    conv => lhs; unfold runC
                    rw [if_neg ?_, if_neg ?_]
                    · rw [← HT.out.1, ← HT.out.2.1]; omega
                    · rw [← HT.out.1, ← HT.out.2.1, HT.out.2.2]
                      rintro (h | h | h)
                      · cases h
                      · omega
                      · omega
        · have hid : decide (i < n) = false := decide_eq_false hi
          have hii : ¬ (i : Int) < (n : Int) := by omega
          obtain ⟨D, jm, ev, ve, vj, k, hC, hk, hj, hev, hrun⟩ := HR.out
          have hin : i = n := by have := HI.out; omega
          rw [List.drop_eq_nil_of_le (by rw [← HM.out.2]; omega)] at hrun
          have hres : res = (jm.all (evenAt ev) && lastOk xs) := by rw [HE.out, hrun]; rfl
          have HRS := Aside0.mk hres
          obtain ⟨Ae, ce, hve⟩ := own_slice hC.he
          obtain ⟨Aj, cj, hvj⟩ := own_slice hC.hj
          subst hve hvj
          have HC9 := Aside0.mk hC
          obtain ⟨_, _, _, u4, u5⟩ := hC.c
          obtain ⟨ne, hne⟩ : ∃ m, m = ev.length := ⟨_, rfl⟩
          obtain ⟨nj, hnj⟩ : ∃ m, m = jm.length := ⟨_, rfl⟩
          rw [← hne] at u4
          rw [← hnj] at u5
          have HNN := Aside0.mk (And.intro hne hnj)
          have hnj1 : nj ≤ 20000 := by omega
          have hB9 := HK.out.same _ _ 25 (by decide) (by decide) (by decide) B3.out
          have z2 : wr.cell? ⟨W.heap.size, 2, none⟩ = some (.slice A2 n c2) := (cell_of_heap hB9 2).trans rfl
          have hn1' : wrap64 ((n : Int) - 1) = (n : Int) - 1 := by unfold wrap64; omega
          have hil : n - 1 < xs.length := by have := HM.out.2; omega
          obtain ⟨ad, rfl, d0, _⟩ := at_T39 (Kd.C_below H2.out hC.since.b) ((n : Int) - 1) (by omega) (by have := HM.out.2; omega)
          obtain ⟨x, hx⟩ : ∃ x, x = rd_T39 xs ((n : Int) - 1) := ⟨_, rfl⟩
          rw [← hx, show ((n : Int) - 1).toNat = n - 1 from by omega] at d0
          have hlast : lastOk xs = (isOp x.f0 [115, 116, 111, 112] || isOp x.f0 [106, 117, 109, 112]) := by
            unfold lastOk
            have : xs.getLast? = some x := by
              rw [List.getLast?_eq_getElem?, ← HM.out.2, hx]
              have e1 : ((n : Int) - 1).toNat = n - 1 := by omega
              simp [rd_T39, e1, hil]
            rw [this]
          have HLS := Aside0.mk hlast
          clear hC hk hj hev hrun hres hne hnj hB9 hx hlast hil
          go_wp2_with fail
          go_loopg [100] nj (fun gk v100 wq => ∃ j : Nat, v100 = .int .i64 (j : Int) ∧ wq = wr ∧ Aside0 (j + gk = nj) ∧ Aside0 (jm.all (evenAt ev) = (jm.drop j).all (evenAt ev)))
          case atStart => exact ⟨0, rfl, rfl, ⟨by omega⟩, ⟨rfl⟩⟩
          case round =>
            obtain ⟨j, rfl, rfl, HJ, HA⟩ := hrel
            by_cases hj : j < nj
            · have hjd : decide (j < nj) = true := decide_eq_true hj
              have hjj : (j : Int) < (nj : Int) := by omega
              have hjl : j < jm.length := by have := HNN.out.2; omega
              obtain ⟨p, hp⟩ : ∃ p, p = jm[j] := ⟨_, rfl⟩
              obtain ⟨adj, hAj, hcell⟩ := own_cell HC9.out.hj j (.int .i64 p) (by rw [hp]; simp [hjl])
              subst hAj
              have HDR := Aside0.mk (show jm.drop j = p :: jm.drop (j + 1) by rw [hp]; exact List.drop_eq_getElem_cons hjl)
              clear hp hjl
              by_cases p1 : p < 0
              · have hev : evenAt ev p = false := by unfold evenAt; rw [decide_eq_false (by omega)]; rfl
                go_wp2_with fail
                go_ret
                have hr : res = false := by rw [HRS.out, HA.out, HDR.out, List.all_cons, hev]; rfl
                exact ⟨by rw [hr]; rfl, HC9.out.since⟩
              · by_cases p2 : p ≥ (ne : Int)
                · have hev : evenAt ev p = false := by unfold evenAt; rw [decide_eq_false (by have := HNN.out.1; omega)]; rfl
                  go_wp2_with fail
                  go_ret
                  have hr : res = false := by rw [HRS.out, HA.out, HDR.out, List.all_cons, hev]; rfl
                  exact ⟨by rw [hr]; rfl, HC9.out.since⟩
                · have hpl : p.toNat < ev.length := by have := HNN.out.1; omega
                  obtain ⟨q, hq⟩ : ∃ q, q = ev[p.toNat] := ⟨_, rfl⟩
                  obtain ⟨ade, hAe, hcell2⟩ := own_cell HC9.out.he p.toNat (.bool q) (by rw [hq]; simp [hpl])
                  subst hAe
                  have hev : evenAt ev p = q := by
                    unfold evenAt
                    rw [decide_eq_true (by omega), hq]
                    simp [hpl]
                  have HEV := Aside0.mk hev
                  have p3 : p < (ne : Int) := by omega
                  have p4 : 0 ≤ p := by omega
                  clear hq hpl hev
                  cases q with
                  | false =>
                    have hev := HEV.out
                    go_wp2_with fail
                    go_ret
                    have hr : res = false := by rw [HRS.out, HA.out, HDR.out, List.all_cons, hev]; rfl
                    exact ⟨by rw [hr]; rfl, HC9.out.since⟩
                  | true =>
                    go_wp2_with fail
                    obtain ⟨k2, hk2⟩ : ∃ k2, k2 = gk - 1 := ⟨_, rfl⟩
                    go_roundg k2
                    case measure => have := HJ.out; omega
                    case rel => exact ⟨j + 1, by go_num, rfl, ⟨by have := HJ.out; omega⟩, ⟨by rw [HA.out, HDR.out, List.all_cons, HEV.out]; rfl⟩⟩
            · have hjd : decide (j < nj) = false := decide_eq_false hj
              have hjj : ¬ (j : Int) < (nj : Int) := by omega
              have hr : res = (isOp x.f0 [115, 116, 111, 112] || isOp x.f0 [106, 117, 109, 112]) := by
                rw [HRS.out, HA.out, List.drop_eq_nil_of_le (by have := HNN.out.2; have := HJ.out; omega), HLS.out]; rfl
              cases o1 : x.f0.toList == [115, 116, 111, 112] with
              | true =>
                have e1 : isOp x.f0 [115, 116, 111, 112] = true := o1
                go_wp2_with fail
                go_ret
                exact ⟨by first | rfl | (rw [hr, e1]; rfl), HC9.out.since⟩
              | false =>
                have e1 : isOp x.f0 [115, 116, 111, 112] = false := o1
                go_wp2_with fail
                go_ret
                exact ⟨by first | rfl | (rw [hr, e1]; rfl), HC9.out.since⟩

end Go.Proofs.Ytdecgknnbegobaa.Cd

namespace Go.Proofs.Ytdecgknnbegobaa.Cd
open Go.RowKit Go.Lib Go.Maps Go.Proofs.Ytdecgknnbegobaa.D Go.Proofs.YtdecgknnbegobaaW.PrintWords Go.Proofs.YtdecgknnbegobaaW.PrintLast Go.Proofs.YtdecgknnbegobaaW.PrintMore
set_option linter.unusedVariables false
set_option linter.unusedSimpArgs false

/-- A number in groups of seven bits, the least first. -/
def cntF : Nat → Nat → List Int
  | 0, _ => []
  | k + 1, n => if n > 127 then ((n % 128 + 128 : Nat) : Int) :: cntF k (n / 128) else [(n : Int)]
def cnt (n : Nat) : List Int := cntF 10 n
theorem and127 (n : Nat) (h : n < 2 ^ 64) : Go.bits .and .u64 (n : Int) 127 = ((n % 128 : Nat) : Int) := by
  show IntKind.u64.wrap ((BitVec.ofInt 64 (n : Int) &&& BitVec.ofInt 64 127).toNat : Int) = _
  rw [BitVec.toNat_and, show (BitVec.ofInt 64 127).toNat = 2 ^ 7 - 1 from rfl, Nat.and_two_pow_sub_one_eq_mod, IntKind.wrap_u64]
  have : (BitVec.ofInt 64 (n : Int)).toNat = n := by simp [BitVec.toNat_ofInt]; omega
  rw [this]
  omega
theorem or128 (r : Nat) (h : r < 128) : Go.bits .or .u64 (r : Int) 128 = ((r + 128 : Nat) : Int) := by
  show IntKind.u64.wrap ((BitVec.ofInt 64 (r : Int) ||| BitVec.ofInt 64 128).toNat : Int) = _
  have e1 : (BitVec.ofInt 64 (r : Int)).toNat = r := by simp [BitVec.toNat_ofInt]; omega
  rw [BitVec.toNat_or, e1, show (BitVec.ofInt 64 128).toNat = 2 ^ 7 * 1 from rfl, Nat.or_comm, ← Nat.two_pow_add_eq_or_of_lt (by omega), IntKind.wrap_u64]
  omega
theorem counted_is : ∀ (k n : Nat) (l : List Int) (f : Nat), n < 128 ^ (k + 1) → n < 2 ^ 64 → k + 1 ≤ f → l.length + k + 1 < 140737488355328 → code_counted.l0 f l (n : Int) = some (l ++ cntF (k + 1) n) := by
  intro k
  induction k with
  | zero =>
    intro n l f hn h64 hf hl
    obtain ⟨f, rfl⟩ : ∃ g, f = g + 1 := ⟨f - 1, by omega⟩
    simp only [code_counted.l0, cntF]
    rw [if_neg (by omega), if_pos (by omega), if_neg (by omega)]
    have : (n : Int) % 256 = n := by omega
    rw [this]
  | succ k ih =>
    intro n l f hn h64 hf hl
    obtain ⟨f, rfl⟩ : ∃ g, f = g + 1 := ⟨f - 1, by omega⟩
    unfold code_counted.l0 cntF
    by_cases h : n > 127
    · rw [if_pos (by omega), if_pos (by omega), if_pos h, and127 n h64, or128 _ (Nat.mod_lt _ (by omega))]
      have e1 : ((n % 128 + 128 : Nat) : Int) % 256 = ((n % 128 + 128 : Nat) : Int) := by omega
      have e2 : (n : Int) / 128 = ((n / 128 : Nat) : Int) := by omega
      rw [e1, e2, ih (n / 128) _ f (by rw [Nat.pow_succ] at hn; exact Nat.div_lt_of_lt_mul (by omega)) (by omega) (by omega) (by simp; omega)]
      simp
    · rw [if_neg (by omega), if_pos (by omega), if_neg h]
      have : (n : Int) % 256 = n := by omega
      rw [this]
theorem counted_eq (n : Nat) (l : List Int) (h64 : n < 2 ^ 64) (hl : l.length ≤ 140737488000000) : code_counted.f 10 l (n : Int) = some (l ++ cnt n) := by
  unfold code_counted.f cnt
  exact counted_is 9 n l 10 (by omega) h64 (Nat.le_refl _) (by omega)

end Go.Proofs.Ytdecgknnbegobaa.Cd

namespace Go.Proofs.Ytdecgknnbegobaa.Cd
open Go.RowKit Go.Lib Go.Maps Go.Proofs.Ytdecgknnbegobaa.D Go.Proofs.YtdecgknnbegobaaW.PrintWords Go.Proofs.YtdecgknnbegobaaW.PrintLast Go.Proofs.YtdecgknnbegobaaW.PrintMore
set_option linter.unusedVariables false
set_option linter.unusedSimpArgs false

/-- A signed number as one from 0 on. -/
def zz (a : Int) : Nat := if 0 ≤ a then (2 * a).toNat else (-2 * a - 1).toNat
theorem zz_lt {a : Int} (h : -9223372036854775808 ≤ a ∧ a ≤ 9223372036854775807) : zz a < 2 ^ 64 := by
  unfold zz
  split <;> omega
theorem zz_is {a : Int} (h : -9223372036854775808 ≤ a ∧ a ≤ 9223372036854775807) : Go.bits .xor .u64 (IntKind.u64.wrap ((IntKind.u64.wrap a) * 2)) (IntKind.u64.wrap (a / 9223372036854775808)) = (zz a : Int) := by
  show IntKind.u64.wrap ((BitVec.ofInt 64 (IntKind.u64.wrap ((IntKind.u64.wrap a) * 2)) ^^^ BitVec.ofInt 64 (IntKind.u64.wrap (a / 9223372036854775808))).toNat : Int) = _
  by_cases h0 : 0 ≤ a
  · have e1 : a / 9223372036854775808 = 0 := by omega
    have e2 : IntKind.u64.wrap ((IntKind.u64.wrap a) * 2) = ((2 * a).toNat : Int) := by rw [IntKind.wrap_u64, IntKind.wrap_u64]; omega
    rw [e1, e2]
    have e3 : BitVec.ofInt 64 (IntKind.u64.wrap 0) = 0#64 := by decide
    rw [e3, BitVec.xor_zero]
    have e4 : (BitVec.ofInt 64 ((2 * a).toNat : Int)).toNat = (2 * a).toNat := by simp [BitVec.toNat_ofInt]; omega
    rw [e4, IntKind.wrap_u64]
    unfold zz
    rw [if_pos h0]
    omega
  · have e1 : a / 9223372036854775808 = -1 := by omega
    have e2 : IntKind.u64.wrap ((IntKind.u64.wrap a) * 2) = ((2 * a + 18446744073709551616).toNat : Int) := by rw [IntKind.wrap_u64, IntKind.wrap_u64]; omega
    rw [e1, e2]
    have e3 : BitVec.ofInt 64 (IntKind.u64.wrap (-1)) = BitVec.allOnes 64 := by decide
    rw [e3, BitVec.xor_allOnes, BitVec.toNat_not]
    have e4 : (BitVec.ofInt 64 ((2 * a + 18446744073709551616).toNat : Int)).toNat = (2 * a + 18446744073709551616).toNat := by simp [BitVec.toNat_ofInt]; omega
    rw [e4, IntKind.wrap_u64]
    unfold zz
    rw [if_neg h0]
    omega
theorem signed_eq {a : Int} (h : -9223372036854775808 ≤ a ∧ a ≤ 9223372036854775807) (l : List Int) (hl : l.length ≤ 140737488000000) : code_signed.f 10 l a = some (l ++ cnt (zz a)) := by
  unfold code_signed.f
  rw [zz_is h, counted_eq _ _ (zz_lt h) hl]
  rfl
theorem cntF_len : ∀ (k n : Nat), (cntF k n).length ≤ k
  | 0, _ => by simp [cntF]
  | k + 1, n => by
    unfold cntF
    split
    · have := cntF_len k (n / 128)
      simp only [List.length_cons]; omega
    · simp
theorem cnt_len (n : Nat) : (cnt n).length ≤ 10 := cntF_len 10 n

end Go.Proofs.Ytdecgknnbegobaa.Cd

namespace Go.Proofs.Ytdecgknnbegobaa.Cd
open Go.RowKit Go.Lib Go.Maps Go.Proofs.Ytdecgknnbegobaa.D Go.Proofs.YtdecgknnbegobaaW.PrintWords Go.Proofs.YtdecgknnbegobaaW.PrintLast Go.Proofs.YtdecgknnbegobaaW.PrintMore
set_option linter.unusedVariables false
set_option linter.unusedSimpArgs false

/-- A row of bytes of the call's own. -/
structure Bow (w0 w : World) (v : Value) (l : List Int) : Prop where
  since : Since w0 w
  R : Kd.R (Kd.int .u8) 5 w w0.heap.size (fun k => some k = v.ownBlock) v l
/-- Blocks that are no rows of bytes stay. -/
structure KeptU (w w' : World) : Prop where
  size : w.heap.size ≤ w'.heap.size
  same : ∀ (k : Nat) (cells : Array Value) (t : TypeId), t ≠ 5 → w.heap[k]? = some (Obj.cells cells t (0, 0)) → w'.heap[k]? = some (Obj.cells cells t (0, 0))
theorem KeptU.refl (w : World) : KeptU w w := ⟨Nat.le_refl _, fun _ _ _ _ h => h⟩
theorem KeptU.trans {w w1 w2 : World} (h : KeptU w w1) (g : KeptU w1 w2) : KeptU w w2 := ⟨Nat.le_trans h.size g.size, fun k c t h1 hb => g.same k c t h1 (h.same k c t h1 hb)⟩
theorem KeptU.since {w w1 : World} (h : Since w w1) : KeptU w w1 := ⟨h.b.size, fun k c t _ hb => Cd.blk h.b hb⟩
theorem R_any {w : World} {base : Nat} {ok : Nat → Prop} {v : Value} {l : List Int} (h : Kd.R (Kd.int .u8) 5 w base ok v l) : Kd.R (Kd.int .u8) 5 w base (fun k => some k = v.ownBlock) v l := ⟨fun k hk => hk.symm, h.2.imp_ (fun _ _ hp => hp)⟩
theorem R_typed {w : World} {base : Nat} {ok : Nat → Prop} {v : Value} {l : List Int} (h : Kd.R (Kd.int .u8) 5 w base ok v l) (k : Nat) (hk : v.ownBlock = some k) : ∃ cells, w.heap[k]? = some (.cells cells 5 (0, 0)) := by
  obtain ⟨_, inner, ho, _⟩ := h
  exact own_typed ho k hk
theorem Bow.kept {w0 w w' : World} {v : Value} {l : List Int} (h : Bow w0 w v l) (hk : Kept w w' (fun k => some k = v.ownBlock)) : KeptU w w' := by
  refine ⟨hk.1, fun k cells t t5 hb => ?_⟩
  rw [hk.2 k (blk_lt hb) (fun e => ?_)]
  · exact hb
  · obtain ⟨cs, hc⟩ := R_typed h.R k e.symm
    rw [hc] at hb
    injection hb with hb
    injection hb with _ hb _
    exact t5 hb.symm
theorem counted_calls {w0 w : World} {v : Value} {l : List Int} (h : Bow w0 w v l) (n : Nat) (hn : n < 2 ^ 64) (hl : l.length ≤ 140737488000000) :
    Calls Try.prog 13 #[v, .int .u64 (n : Int)] w fun e w' => ∃ v', e = .returned v' ∧ Bow w0 w' v' (l ++ cnt n) ∧ KeptU w w' := by
  refine (code_counted.calls 10 (fun k => some k = v.ownBlock) v l (n : Int) _ w0 w h.since.b h.R (counted_eq n l hn hl)).mono ?_
  rintro e w' ⟨v', rfl, hR, hb, hk⟩
  exact ⟨v', rfl, ⟨⟨hb⟩, R_any hR⟩, h.kept hk⟩
theorem signed_calls {w0 w : World} {v : Value} {l : List Int} (h : Bow w0 w v l) (a : Int) (ha : -9223372036854775808 ≤ a ∧ a ≤ 9223372036854775807) (hl : l.length ≤ 140737488000000) :
    Calls Try.prog 15 #[v, .int .i64 a] w fun e w' => ∃ v', e = .returned v' ∧ Bow w0 w' v' (l ++ cnt (zz a)) ∧ KeptU w w' := by
  refine (code_signed.calls 10 (fun k => some k = v.ownBlock) v l a _ w0 w h.since.b h.R (signed_eq ha l hl)).mono ?_
  rintro e w' ⟨v', rfl, hR, hb, hk⟩
  exact ⟨v', rfl, ⟨⟨hb⟩, R_any hR⟩, h.kept hk⟩

end Go.Proofs.Ytdecgknnbegobaa.Cd

namespace Go.Proofs.Ytdecgknnbegobaa.Cd
open Go.RowKit Go.Lib Go.Maps Go.Proofs.Ytdecgknnbegobaa.D Go.Proofs.YtdecgknnbegobaaW.PrintWords Go.Proofs.YtdecgknnbegobaaW.PrintLast Go.Proofs.YtdecgknnbegobaaW.PrintMore
set_option linter.unusedVariables false
set_option linter.unusedSimpArgs false

/-- An instruction's bytes; a program's. -/
def encI (x : S39) : List Int := plF x.f0 :: (cnt (zz x.f1) ++ (cnt (zz x.f2) ++ (cnt (zz x.f3) ++ (cnt x.f4.size ++ bytesOf x.f4))))
def encX (xs : List S39) : List Int := xs.flatMap encI
def encL (ws : List Int) (rg : Int) (xs : List S39) : List Int := [86, 66, 49] ++ (cnt ws.length ++ (ws ++ (cnt rg.toNat ++ (cnt xs.length ++ encX xs))))
theorem encI_len (x : S39) (h : x.f4.size ≤ 65536) : (encI x).length ≤ 70000 := by
  unfold encI
  have h1 := cnt_len (zz x.f1)
  have h2 := cnt_len (zz x.f2)
  have h3 := cnt_len (zz x.f3)
  have h4 := cnt_len x.f4.size
  simp only [List.length_cons, List.length_append, bytesOf_length]
  omega
theorem encX_len (xs : List S39) (h : ∀ x ∈ xs, x.f4.size ≤ 65536) : (encX xs).length ≤ 70000 * xs.length := by
  unfold encX
  induction xs with
  | nil => simp
  | cons x xs ih =>
    have h1 := encI_len x (h x (by simp))
    have h2 := ih fun y hy => h y (by simp [hy])
    simp only [List.flatMap_cons, List.length_append, List.length_cons]
    omega

end Go.Proofs.Ytdecgknnbegobaa.Cd

namespace Go.Proofs.Ytdecgknnbegobaa.Cd
open Go.RowKit Go.Lib Go.Maps Go.Proofs.Ytdecgknnbegobaa.D Go.Proofs.YtdecgknnbegobaaW.PrintWords Go.Proofs.YtdecgknnbegobaaW.PrintLast Go.Proofs.YtdecgknnbegobaaW.PrintMore
set_option linter.unusedVariables false
set_option linter.unusedSimpArgs false

theorem runC_all {ws : List Int} {rg : Int} (P : S39 → Prop) (hP : ∀ D x, insB ws rg D x = true → P x) : ∀ (xs : List S39) (D : Dm) (jm : List Int) (ev : List Bool) (d : Int) (r : List Int × List Bool), runC ws rg xs D jm ev d = some r → ∀ x ∈ xs, P x
  | [], _, _, _, _, _, _ => by simp
  | x :: xs, D, jm, ev, d, r, h => by
    unfold runC at h
    split at h
    · cases h
    · rename_i h1
      split at h
      · cases h
      · intro y hy
        rcases List.mem_cons.1 hy with rfl | hy
        · refine hP D y ?_
          have h2 : (insT ws rg D y).2.2 ≠ false := fun e => h1 (.inl e)
          unfold insT at h2
          by_cases hB : insB ws rg D y = false
          · rw [if_pos hB] at h2
            exact absurd rfl h2
          · simpa using hB
        · exact runC_all P hP xs _ _ _ _ _ h y hy

theorem size_toList (s : ByteArray) : s.toList.length = s.size := by rw [Go.ByteArray.toList_eq]; exact data_length s
theorem hasT_len {l : List ByteArray} {s : ByteArray} (h : hasT l s = true) (hl : ∀ x ∈ l, x.size ≤ 2) : s.size ≤ 2 := by
  unfold hasT at h
  obtain ⟨x, hx, e⟩ := of_decide_eq_true h
  have := hl x hx
  rw [← size_toList] at this ⊢
  rw [e]; exact this
theorem textB_len {kind : Int} {s : ByteArray} (hs : s.size ≤ 9223372036854775800) (h : textB kind s = true) : s.size ≤ 65536 := by
  unfold textB at h
  split at h
  · have := of_decide_eq_true h; omega
  split at h
  · have := hasT_len h (by decide); omega
  split at h
  · have := hasT_len h (by decide); omega
  split at h
  · have := wordB_len h; omega
  split at h
  · obtain ⟨_, hl1, hl2⟩ := liI_spec s (by omega)
    unfold partsO at h
    split at h
    · cases h
    · rename_i hh
      have hw : wordB (s.extract 0 (liI s).toNat) = true := by
        cases hq : wordB (s.extract 0 (liI s).toNat) with
        | true => rfl
        | false => exact absurd (.inr (.inr (.inr (.inr hq)))) hh
      have := wordB_len hw
      have h1 : ¬ liI s < 0 := fun e => hh (.inl e)
      have h2 : (s.size : Int) = liI s + 2 := Classical.byContradiction fun e => hh (.inr (.inl e))
      simp [ByteArray.size_extract] at this
      omega
  · have e : s.toList = [] := by simpa using h
    have := size_toList s
    rw [e] at this
    simp at this
    omega

end Go.Proofs.Ytdecgknnbegobaa.Cd

namespace Go.Proofs.Ytdecgknnbegobaa.Cd
open Go.RowKit Go.Lib Go.Maps Go.Proofs.Ytdecgknnbegobaa.D Go.Proofs.YtdecgknnbegobaaW.PrintWords Go.Proofs.YtdecgknnbegobaaW.PrintLast Go.Proofs.YtdecgknnbegobaaW.PrintMore
set_option linter.unusedVariables false
set_option linter.unusedSimpArgs false

set_option maxHeartbeats 4000000 in
set_option maxRecDepth 100000 in
theorem encode_no (W : World) (A0 : Option Addr) (c0 : Nat) (ws : List Int) (h0 : Sl W A0 c0 ws) (rg : Int) (A2 : Option Addr) (c2 : Nat) (xs : List S39) (h2 : Kd.C k39 W A2 xs.length xs) (hc2 : xs.length ≤ c2) (hx : ∀ x ∈ xs, x.f4.size ≤ 9223372036854775800) (hno : chkB ws rg xs = false) :
    Calls Try.prog 7 #[.agg #[.slice A0 ws.length c0, .int .i64 rg, .slice A2 xs.length c2]] W fun e w' => e = .returned (.tuple #[.slice none 0 0, .int .i64 21]) ∧ Since W w' := by
  obtain ⟨V, hV⟩ : ∃ V, V = W.alloc (.cells #[.slice A0 ws.length c0, .int .i64 rg, .slice A2 xs.length c2] 25) := ⟨_, rfl⟩
  have SV := Aside0.mk (show Since W V by rw [hV]; exact (Since.refl W).alloc _)
  have hC := check_calls V A0 c0 ws (SV.out.sl h0) rg A2 c2 xs (Kd.C_below h2 SV.out.b) hc2 hx
  rw [hno] at hC
  obtain ⟨m, hm⟩ : ∃ m, m = ws.length := ⟨_, rfl⟩
  obtain ⟨n, hn⟩ : ∃ n, n = xs.length := ⟨_, rfl⟩
  rw [← hm, ← hn] at hC hV ⊢
  have HV := Aside0.mk hV
  have HC := Aside0.mk hC
  clear hV h0 h2 hx hno hm hn hc2 hC
  go_enter Try.func7, Try.ntmps7
  go_wp2_with (first
    | (go_at_call 12; rw [← HV.out]; refine HC.out.mono ?_; rintro e1 w1 ⟨rfl, hs1⟩; have S1 := Aside0.mk hs1; clear hs1))
  go_ret2
  exact ⟨rfl, SV.out.trans S1.out⟩

end Go.Proofs.Ytdecgknnbegobaa.Cd

namespace Go.Proofs.Ytdecgknnbegobaa.Cd
open Go.RowKit Go.Lib Go.Maps Go.Proofs.Ytdecgknnbegobaa.D Go.Proofs.YtdecgknnbegobaaW.PrintWords Go.Proofs.YtdecgknnbegobaaW.PrintLast Go.Proofs.YtdecgknnbegobaaW.PrintMore
set_option linter.unusedVariables false
set_option linter.unusedSimpArgs false

theorem Bow.of_own {w0 w : World} {v : Value} {l : List Int} (hs : Since w0 w) (ho : w.ownsRow w0.heap.size 5 1 v l.length (l.map (Value.int .u8))) : Bow w0 w v l :=
  ⟨hs, Kd.R_of_own (enc := Value.int .u8) (h1 := fun _ => rfl) ho (fun k hk => hk.symm)⟩

theorem Bow.own {w0 w : World} {v : Value} {l : List Int} (h : Bow w0 w v l) : w.ownsRow w0.heap.size 5 1 v l.length (l.map (Value.int .u8)) :=
  Kd.own_of_R (enc := Value.int .u8) (h1 := fun _ => rfl) h.R
/-- A row that was written out. -/
theorem Bow.lit {w0 w : World} {l : List Int} {b : Nat} (hs : Since w0 w) (hb : w.heap[b]? = some (.cells (l.map (Value.int .u8)).toArray 5 (0, 0))) (hw : w0.heap.size ≤ b) (hl : l.length ≤ 1000) : Bow w0 w (.slice (some ⟨b, 0, none⟩) l.length l.length) l :=
  .of_own hs ⟨by simp, .inr ⟨b, l.length, _, rfl, hw, hb, Nat.le_refl _, by unfold maxLen; omega, by simp, by simp [List.take_of_length_le]⟩⟩
/-- One byte more: what print_append leaves. -/
theorem Bow.grown {w0 w w1 : World} {v v1 : Value} {l : List Int} {x : Int} (h : Bow w0 w v l) (hb : Below w0.heap.size w0 w1) (hg : w.grownBy w1 v.ownBlock) (ho : w1.ownsRow w0.heap.size 5 1 v1 (l.map (Value.int .u8) ++ [Value.int .u8 x]).length (l.map (Value.int .u8) ++ [Value.int .u8 x])) : Bow w0 w1 v1 (l ++ [x]) ∧ KeptU w w1 :=
  ⟨.of_own ⟨hb⟩ (by simpa using ho), h.kept ⟨hg.size, fun k hk hn => hg.block k hk (fun e => hn e)⟩⟩
theorem Bow.since' {w0 w w1 : World} {v : Value} {l : List Int} (h : Bow w0 w v l) (hs : Since w w1) : Bow w0 w1 v l := ⟨h.since.trans hs, Kd.R_below h.R hs.b⟩

end Go.Proofs.Ytdecgknnbegobaa.Cd

namespace Go.Proofs.Ytdecgknnbegobaa.Cd
open Go.RowKit Go.Lib Go.Maps Go.Proofs.Ytdecgknnbegobaa.D Go.Proofs.YtdecgknnbegobaaW.PrintWords Go.Proofs.YtdecgknnbegobaaW.PrintLast Go.Proofs.YtdecgknnbegobaaW.PrintMore
set_option linter.unusedVariables false
set_option linter.unusedSimpArgs false

theorem wpList_append_full {P : Program} {W : World} {ops : Array Oper} {rest : List Oper} {o : Oper} {a : Act} {Q : Exit → Act → World → Prop} (hgd : o.guard = none) (s x : Operand) (t e : TypeId) (z : Value)
    (ho : o.op = .call { callee := .builtin .append, args := #[s, x], argTypes := #[t, t] })
    (ht : P.underlying t = some (.slice e)) (hinfo : (P.info? e).map (fun i => (i.zero, i.size, i.bytes)) = some (some z, 1, 1)) (hz : z.cells.size = 1)
    (b : Addr) (olds : List Value) (hs : a.eval s = .slice (some b) olds.length olds.length) (holds : ∀ j v, olds[j]? = some v → W.cell? (b.add j) = some v) (hl : olds.length ≤ 1000)
    (y : Value) (hx : a.eval x = .slice (some ⟨W.heap.size, 0, none⟩) 1 1) (base : Nat) (hbase : base ≤ W.heap.size)
    (h : ∀ v1 w1, w1.ownsRow base e 1 v1 (olds ++ [y]).length (olds ++ [y]) → Below W.heap.size W w1 → wpList P ops Q rest (a.put o.dst v1) w1) :
    wpList P ops Q (o :: rest) a (W.alloc (.cells #[y] e)) := by
  obtain ⟨i, hi, hzz⟩ := Option.map_eq_some_iff.1 hinfo
  simp only [Prod.mk.injEq] at hzz
  obtain ⟨hz0, hz1, hz2⟩ := hzz
  refine wpList_plain hgd fun K hK => ?_
  have hb1 : Below W.heap.size W (W.alloc (.cells #[y] e)) := below_alloc (Below.refl _ _) _
  have hrun := run_append_grow (P := P) (w := W.alloc (.cells #[y] e)) t o.type e i z ht hi hz0 b olds.length olds.length olds (by rw [hz1]; omega) (fun j v hj => pw_cell_below hb1 (holds j v hj)) ⟨W.heap.size, 0, none⟩ 1 1 [y] (by rw [hz1]; rfl) (fun j v hj => by
    cases j with
    | zero => simp at hj; subst hj; exact (cell_of_heap (heap_alloc_new W (.cells #[y] e)) 0).trans rfl
    | succ j => simp at hj) (by omega) (by omega) (by
      rw [hz2]
      have := nextslicecap_le (need := olds.length + 1) (old := olds.length) (by omega)
      omega)
  have hge := grownCap_ge (W.alloc (.cells #[y] e)) (olds.length + 1) olds.length e
  have hle := grownCap_le_maxLen (W.alloc (.cells #[y] e)) (olds.length + 1) olds.length e (by unfold maxLen; omega)
  unfold Oper.wp
  simp [execOp, ho, resolve, invoke, builtin, hs, hx, hrun, Result.andThen]
  have hsz : (W.alloc (.cells #[y] e)).drew.heap.size = W.heap.size + 1 := by simp
  refine hK _ _ (h _ _ ⟨by simp, .inr ⟨W.heap.size + 1, _, _, by simp, by omega, by rw [← hsz]; exact heap_alloc_new _ _, by simpa using hge, hle, ?_, ?_⟩⟩ ?_)
  · have hz' := size_zeroCells z.cells (grownCap (W.alloc (.cells #[y] e)) (olds.length + 1) olds.length e - (olds.length + 1))
    simp [hz', hz]
    omega
  · have e3 : ∀ Z : List Value, List.take (olds.length + 1) (olds ++ y :: Z) = olds ++ [y] := fun Z => by
      rw [show olds ++ y :: Z = (olds ++ [y]) ++ Z from by simp]
      exact List.take_left' (by simp)
    simp [e3]
  · exact below_alloc (below_drew (below_alloc (Below.refl _ _) _)) _

end Go.Proofs.Ytdecgknnbegobaa.Cd

namespace Go.Proofs.Ytdecgknnbegobaa.Cd
open Go.RowKit Go.Lib Go.Maps Go.Proofs.Ytdecgknnbegobaa.D Go.Proofs.YtdecgknnbegobaaW.PrintWords Go.Proofs.YtdecgknnbegobaaW.PrintLast Go.Proofs.YtdecgknnbegobaaW.PrintMore
set_option linter.unusedVariables false
set_option linter.unusedSimpArgs false

theorem info5' : (Try.prog.info? 5).map (fun i => (i.zero, i.size, i.bytes)) = some (some (.int .u8 0), 1, 1) := by kernel_rfl
set_option maxHeartbeats 4000000 in
set_option maxRecDepth 100000 in
theorem counted_lit {w0 w : World} (hs : Since w0 w) (b : Nat) (hb : ∀ j v, ([.int .u8 86, .int .u8 66, .int .u8 49] : List Value)[j]? = some v → w.cell? ((⟨b, 0, none⟩ : Addr).add j) = some v) (n : Nat) (hn : n ≤ 127) :
    Calls Try.prog 13 #[.slice (some ⟨b, 0, none⟩) 3 3, .int .u64 (n : Int)] w fun e w' => ∃ v', e = .returned v' ∧ Bow w0 w' v' ([86, 66, 49] ++ cnt n) ∧ KeptU w w' := by
  have HS := Aside0.mk hs
  have HB := Aside0.mk hb
  have e1 : cnt n = [(n : Int)] := by unfold cnt cntF; rw [if_neg (by omega)]
  rw [e1]
  have g1 : ¬ (n : Int) > 127 := by omega
  have g2 : (n : Int) % 256 = n := by omega
  clear hs hb e1 hn
  go_enter Try.func13, Try.ntmps13
  go_wp2_with fail
  go_loopg [0, 1] 0 (fun gk v0 v1 wr => v0 = .slice (some ⟨b, 0, none⟩) 3 3 ∧ v1 = .int .u64 (n : Int) ∧ wr = w)
  case atStart => exact ⟨rfl, rfl, rfl⟩
  case round =>
    obtain ⟨rfl, rfl, rfl⟩ := hrel
    go_wp2_with ((with_reducible refine gate_builtin (b := .append) (xs := #[.tmp 16, .tmp 19]) rfl ?_); go_loud (refine wpList_append_full rfl (.tmp 16) (.tmp 19) 26 5 (.int .u8 0) rfl Try.underlying26 info5' rfl ⟨b, 0, none⟩ [.int .u8 86, .int .u8 66, .int .u8 49] rfl HB.out (by decide) (.int .u8 (n : Int)) rfl w0.heap.size HS.out.b.size ?_; intro v7 w7 ho hb7; have HO := Aside0.mk ho; have HB7 := Aside0.mk hb7; clear ho hb7))
    go_ret
    exact ⟨_, rfl, .of_own (HS.out.trans ⟨HB7.out⟩) HO.out, KeptU.since ⟨HB7.out⟩⟩

set_option maxHeartbeats 4000000 in
set_option maxRecDepth 100000 in
theorem counted_lit128 {w0 w : World} (hs : Since w0 w) (b : Nat) (hb : ∀ j v, ([.int .u8 86, .int .u8 66, .int .u8 49] : List Value)[j]? = some v → w.cell? ((⟨b, 0, none⟩ : Addr).add j) = some v) :
    Calls Try.prog 13 #[.slice (some ⟨b, 0, none⟩) 3 3, .int .u64 128] w fun e w' => ∃ v', e = .returned v' ∧ Bow w0 w' v' ([86, 66, 49] ++ cnt 128) ∧ KeptU w w' := by
  have HS := Aside0.mk hs
  have HB := Aside0.mk hb
  have e1 : cnt 128 = [128, 1] := by decide
  rw [e1]
  have g1 : Go.bits .and .u64 128 127 = 0 := by decide
  have g2 : Go.bits .or .u64 0 128 = 128 := by decide
  clear hs hb e1
  go_enter Try.func13, Try.ntmps13
  go_wp2_with fail
  go_loopg [0, 1] 1 (fun gk v0 v1 wr => (gk = 1 ∧ v0 = .slice (some ⟨b, 0, none⟩) 3 3 ∧ v1 = .int .u64 128 ∧ wr = w) ∨ (gk = 0 ∧ v1 = .int .u64 1 ∧ Aside0 (Bow w0 wr v0 [86, 66, 49, 128] ∧ Since w wr)))
  case atStart => exact .inl ⟨rfl, rfl, rfl, rfl⟩
  case round =>
    rcases hrel with ⟨rfl, rfl, rfl, rfl⟩ | ⟨rfl, rfl, HR⟩
    · go_wp2_with ((with_reducible refine gate_builtin (b := .append) (xs := #[.tmp 9, .tmp 14]) rfl ?_); go_loud (refine wpList_append_full rfl (.tmp 9) (.tmp 14) 26 5 (.int .u8 0) rfl Try.underlying26 info5' rfl ⟨b, 0, none⟩ [.int .u8 86, .int .u8 66, .int .u8 49] rfl HB.out (by decide) (.int .u8 128) rfl w0.heap.size HS.out.b.size ?_; intro v7 w7 ho hb7; have HO := Aside0.mk ho; have HB7 := Aside0.mk hb7; clear ho hb7))
      go_roundg 0
      case measure => omega
      case rel => exact .inr ⟨rfl, rfl, ⟨.of_own (HS.out.trans ⟨HB7.out⟩) HO.out, ⟨HB7.out⟩⟩⟩
    · obtain ⟨A9, c9, hv9⟩ := own_slice HR.out.1.own
      subst hv9
      go_wp2_with ((with_reducible refine gate_builtin (b := .append) (xs := #[.tmp 16, .tmp 19]) rfl ?_); at_builtin; go_loud (refine print_append (W := wr) (w0 := w0) w0.heap.size rfl (.tmp 16) (.tmp 19) 26 5 (.int .u8 0) 1 rfl Try.underlying26 info5' rfl (by decide) (.slice A9 4 c9) (([86, 66, 49, 128] : List Int).map (Value.int .u8)) (.int .u8 1) rfl rfl rfl HR.out.1.own HR.out.1.since.b HR.out.1.since.b.size (by decide) ?_; intro v7 w7 q7 b7 g7 t7; have HG := Aside0.mk (HR.out.1.grown (x := 1) b7 g7 q7); clear q7 b7 g7 t7))
      go_ret
      exact ⟨_, rfl, HG.out.1, (KeptU.since HR.out.2).trans HG.out.2⟩

end Go.Proofs.Ytdecgknnbegobaa.Cd

namespace Go.Proofs.Ytdecgknnbegobaa.Cd
open Go.RowKit Go.Lib Go.Maps Go.Proofs.Ytdecgknnbegobaa.D Go.Proofs.YtdecgknnbegobaaW.PrintWords Go.Proofs.YtdecgknnbegobaaW.PrintLast Go.Proofs.YtdecgknnbegobaaW.PrintMore
set_option linter.unusedVariables false
set_option linter.unusedSimpArgs false

theorem counted_lit_any {w0 w : World} (hs : Since w0 w) (b : Nat) (hb : ∀ j v, ([.int .u8 86, .int .u8 66, .int .u8 49] : List Value)[j]? = some v → w.cell? ((⟨b, 0, none⟩ : Addr).add j) = some v) (n : Nat) (hn : n ≤ 128) :
    Calls Try.prog 13 #[.slice (some ⟨b, 0, none⟩) 3 3, .int .u64 (n : Int)] w fun e w' => ∃ v', e = .returned v' ∧ Bow w0 w' v' ([86, 66, 49] ++ cnt n) ∧ KeptU w w' := by
  rcases Nat.lt_or_ge n 128 with h | h
  · exact counted_lit hs b hb n (by omega)
  · have e : n = 128 := by omega
    subst e
    exact counted_lit128 hs b hb
/-- One byte appended (wpList). -/
theorem list_byte {ops : Array Oper} {rest : List Oper} {o : Oper} {a : Act} {Q : Exit → Act → World → Prop} (hgd : o.guard = none) (s x : Operand)
    (ho : o.op = .call { callee := .builtin .append, args := #[s, x], argTypes := #[26, 26] }) (w0 W : World) (v : Value) (l : List Int) (hb : Bow w0 W v l) (hs : a.eval s = v) (hl : l.length ≤ 140737488000000)
    (y : Int) (hx : a.eval x = .slice (some ⟨W.heap.size, 0, none⟩) 1 1)
    (h : ∀ A1 n1 c1 w1, Bow w0 w1 (.slice A1 n1 c1) (l ++ [y]) → KeptU W w1 → wpList Try.prog ops Q rest (a.put o.dst (.slice A1 n1 c1)) w1) :
    wpList Try.prog ops Q (o :: rest) a (W.alloc (.cells #[.int .u8 y] 5)) := by
  refine print_append (W := W) (w0 := w0) w0.heap.size hgd s x 26 5 (.int .u8 0) 1 ho Try.underlying26 info5' rfl (by decide) v (l.map (Value.int .u8)) (.int .u8 y) hs hx rfl (by rw [List.length_map]; exact hb.own) hb.since.b hb.since.b.size (by rw [List.length_map]; omega) ?_
  intro v7 w7 q7 b7 g7 t7
  have hg := hb.grown (x := y) b7 g7 q7
  obtain ⟨A1, c1, hv⟩ := own_slice q7
  subst hv
  exact h _ _ _ w7 hg.1 hg.2
/-- A text appended. -/
theorem list_text {ops : Array Oper} {rest : List Oper} {o : Oper} {a : Act} {Q : Exit → Act → World → Prop} (hgd : o.guard = none) (s x : Operand)
    (ho : o.op = .call { callee := .builtin .append, args := #[s, x], argTypes := #[26, 9] }) (w0 W : World) (v : Value) (l : List Int) (hb : Bow w0 W v l) (hs : a.eval s = v)
    (y : ByteArray) (hl : l.length + y.size ≤ 140737488000000) (hx : a.eval x = .string y)
    (h : ∀ A1 n1 c1 w1, Bow w0 w1 (.slice A1 n1 c1) (l ++ bytesOf y) → KeptU W w1 → wpList Try.prog ops Q rest (a.put o.dst (.slice A1 n1 c1)) w1) :
    wpList Try.prog ops Q (o :: rest) a W := by
  refine print_append_str (W := W) (w0 := w0) w0.heap.size hgd s x 26 9 5 ho Try.underlying26 Try.underlying9 info5' v l y hs hx hb.own hb.since.b hb.since.b.size (by omega) ?_
  intro v7 w7 q7 b7 g7
  have hw : Bow w0 w7 v7 (l ++ bytesOf y) := .of_own ⟨b7⟩ q7
  obtain ⟨A1, c1, hv⟩ := own_slice q7
  subst hv
  exact h _ _ _ w7 hw (hb.kept ⟨g7.size, fun k hk hn => g7.block k hk (fun e => hn e)⟩)
theorem Bow.slice {w0 w : World} {v : Value} {l : List Int} (h : Bow w0 w v l) : ∃ A n c, v = .slice A n c := by
  obtain ⟨A, c, hv⟩ := own_slice h.own
  exact ⟨A, _, c, hv⟩
theorem lit_cells (w1 : World) : ∀ (j : Nat) (v : Value), ([.int .u8 86, .int .u8 66, .int .u8 49] : List Value)[j]? = some v → (w1.alloc (.cells #[.int .u8 86, .int .u8 66, .int .u8 49] 5 (3, 4))).cell? ((⟨w1.heap.size, 0, none⟩ : Addr).add j) = some v := by
  intro j v hj
  have hb := heap_alloc_new w1 (.cells #[.int .u8 86, .int .u8 66, .int .u8 49] 5 (3, 4))
  rw [add_plain]
  simp only [World.cell?, hb]
  rcases j with _ | _ | _ | j <;> simp_all
/-- What a program must be to be written. -/
structure XOk (x : S39) : Prop where
  p : 0 ≤ plF x.f0 ∧ plF x.f0 ≤ 18
  a : -9223372036854775808 ≤ x.f1 ∧ x.f1 ≤ 9223372036854775807
  b : -9223372036854775808 ≤ x.f2 ∧ x.f2 ≤ 9223372036854775807
  c : -9223372036854775808 ≤ x.f3 ∧ x.f3 ≤ 9223372036854775807
  s : x.f4.size ≤ 65536

set_option maxHeartbeats 40000000 in
set_option maxRecDepth 100000 in
theorem encode_yes (W : World) (A0 : Option Addr) (c0 : Nat) (ws : List Int) (h0 : Sl W A0 c0 ws) (k : Nat) (A2 : Option Addr) (c2 : Nat) (xs : List S39) (h2 : Kd.C k39 W A2 xs.length xs) (hc2 : xs.length ≤ c2) (hx : ∀ x ∈ xs, XOk x) (hw8 : ∀ v ∈ ws, 0 ≤ v ∧ v ≤ 8) (hyes : chkB ws (k : Int) xs = true) :
    Calls Try.prog 7 #[.agg #[.slice A0 ws.length c0, .int .i64 (k : Int), .slice A2 xs.length c2]] W fun e w' => ∃ v, e = .returned (.tuple #[v, .int .i64 0]) ∧ Bow W w' v (encL ws (k : Int) xs) := by
  have hlim : ws.length ≤ 128 ∧ k ≤ 256 ∧ 0 < xs.length ∧ xs.length ≤ 4096 := by
    unfold chkB at hyes
    split at hyes
    · cases hyes
    · omega
  obtain ⟨m, hm⟩ : ∃ m, m = ws.length := ⟨_, rfl⟩
  obtain ⟨n, hn⟩ : ∃ n, n = xs.length := ⟨_, rfl⟩
  obtain ⟨V, hV⟩ : ∃ V, V = W.alloc (.cells #[.slice A0 m c0, .int .i64 (k : Int), .slice A2 n c2] 25) := ⟨_, rfl⟩
  have SV := Aside0.mk (show Since W V by rw [hV]; exact (Since.refl W).alloc _)
  have BV := Aside0.mk (show V.heap[W.heap.size]? = some (.cells #[.slice A0 m c0, .int .i64 (k : Int), .slice A2 n c2] 25 (0, 0)) by rw [hV]; exact heap_alloc_new W _)
  have HV := Aside0.mk hV
  have hC := check_calls V A0 c0 ws (SV.out.sl h0) (k : Int) A2 c2 xs (Kd.C_below h2 SV.out.b) hc2 (fun x hxm => by have := (hx x hxm).s; omega)
  rw [hyes, ← hm, ← hn] at hC
  rw [← hm, ← hn]
  rw [← hm, ← hn] at hlim
  have HC := Aside0.mk hC
  have HM := Aside0.mk (And.intro hm hn)
  have H0 := Aside0.mk h0
  have H2 := Aside0.mk h2
  have HX := Aside0.mk hx
  have H8 := Aside0.mk hw8
  obtain ⟨l1, l2, l3, l4⟩ := hlim
  have hwm : IntKind.u64.wrap (m : Int) = (m : Int) := by rw [IntKind.wrap_u64]; omega
  have hwk : IntKind.u64.wrap (k : Int) = (k : Int) := by rw [IntKind.wrap_u64]; omega
  have hwn : IntKind.u64.wrap (n : Int) = (n : Int) := by rw [IntKind.wrap_u64]; omega
  clear hV hC hm hn h0 h2 hx hw8 hyes hc2
  go_enter Try.func7, Try.ntmps7
  go_wp2_with (first
    | (go_at_call 12; rw [← HV.out]; refine HC.out.mono ?_; rintro e1 w1 ⟨rfl, hs1⟩; have S1 := Aside0.mk hs1; have hb1 := Cd.blk hs1.b BV.out; have hcv := Go.Lib.run_convert_bytes_const (P := Try.prog) w1 26 5 #[.int .u8 86, .int .u8 66, .int .u8 49] 3 3 Try.underlying26 Try.underlying5; have hbA := blk_alloc hb1 (.cells #[.int .u8 86, .int .u8 66, .int .u8 49] 5 (3, 4)); have HBA := Aside0.mk hbA; have q0 : (w1.alloc (.cells #[.int .u8 86, .int .u8 66, .int .u8 49] 5 (3, 4))).cell? ⟨W.heap.size, 0, none⟩ = some (.slice A0 m c0) := (cell_of_heap hbA 0).trans rfl; clear hs1 hb1 hbA)
    | (go_at_call 13; go_loud (refine (counted_lit_any (w0 := W) (SV.out.trans (S1.out.alloc _)) w1.heap.size (lit_cells w1) m l1).mono ?_; rintro e w2 ⟨v, rfl, hB2, hk2⟩; obtain ⟨A9, n9, c9, hv9⟩ := hB2.slice; subst hv9; have HB2 := Aside0.mk hB2; have hb2 := hk2.same _ _ 25 (by decide) HBA.out; have HBK := Aside0.mk hb2; have q1 : w2.cell? ⟨W.heap.size, 0, none⟩ = some (.slice A0 m c0) := (cell_of_heap hb2 0).trans rfl; clear hB2 hk2 hb2 q0 hcv)))
  have HLW := Aside0.mk (show ∀ i, (([86, 66, 49] : List Int) ++ (cnt m ++ ws.take i)).length ≤ 200 from fun i => by
    have h1 := cnt_len m
    have h2 := HM.out.1
    simp
    omega)
  go_loopg [4, 24] m (fun gk v4 v24 wr => ∃ (i : Nat) (A1 : Option Addr) (n1 c1 : Nat), v4 = .slice A1 n1 c1 ∧ v24 = .int .i64 (i : Int) ∧ Aside0 (i + gk = m) ∧ Aside0 (Bow W wr (.slice A1 n1 c1) ([86, 66, 49] ++ (cnt m ++ ws.take i)) ∧ KeptU w2 wr))
  case atStart => exact ⟨0, A9, n9, c9, rfl, rfl, ⟨by omega⟩, ⟨by simpa using HB2.out, KeptU.refl _⟩⟩
  case round =>
    obtain ⟨i, A1, n1, c1, rfl, rfl, HI, HR⟩ := hrel
    by_cases hi : i < m
    · have hid : decide (i < m) = true := decide_eq_true hi
      have hii : (i : Int) < (m : Int) := by omega
      have hil : i < ws.length := by rw [← HM.out.1]; exact hi
      obtain ⟨ad, hA, hcell⟩ := Kd.at_int (Kd.C_below H0.out.C HR.out.1.since.b) (i : Int) (by omega) (by omega)
      subst hA
      obtain ⟨y, hy⟩ : ∃ y, y = ws[i] := ⟨_, rfl⟩
      have hrd : rd ws (i : Int) = y := by rw [hy]; simp [rd, hil]
      rw [hrd, show ((i : Int)).toNat = i from by omega] at hcell
      have h8 := H8.out y (by rw [hy]; exact List.getElem_mem hil)
      have hy8 : y % 256 = y := by omega
      have HTK := Aside0.mk (show ws.take (i + 1) = ws.take i ++ [y] by rw [hy]; exact List.take_succ_eq_append_getElem hil)
      clear hrd hy hil
      go_wp2_with ((with_reducible refine gate_builtin (b := .append) (xs := #[.tmp 28, .tmp 31]) rfl ?_); at_builtin; go_loud (refine list_byte rfl (.tmp 28) (.tmp 31) rfl W wr (.slice A1 n1 c1) _ HR.out.1 rfl (by have := HLW.out i; omega) y rfl ?_; intro A3 n3 c3 w3 hb3 hk3; have HB3 := Aside0.mk hb3; have HK3 := Aside0.mk hk3; clear hb3 hk3))
      obtain ⟨k2, hk2⟩ : ∃ k2, k2 = gk - 1 := ⟨_, rfl⟩
      go_roundg k2
      case measure => have := HI.out; omega
      case rel => exact ⟨i + 1, A3, n3, c3, rfl, by go_num, ⟨by have := HI.out; omega⟩, ⟨by have h := HB3.out; rw [HTK.out]; simpa [List.append_assoc] using h, HR.out.2.trans HK3.out⟩⟩
    · have hid : decide (i < m) = false := decide_eq_false hi
      have hii : ¬ (i : Int) < (m : Int) := by omega
      have hbA := HR.out.2.same _ _ 25 (by decide) HBK.out
      have HBA' := Aside0.mk hbA
      have q2 : wr.cell? ⟨W.heap.size, 1, none⟩ = some (.int .i64 (k : Int)) := (cell_of_heap hbA 1).trans rfl
      have HB4 := Aside0.mk (show Bow W wr (.slice A1 n1 c1) ([86, 66, 49] ++ (cnt m ++ ws)) by
        have h := HR.out.1
        rwa [List.take_of_length_le (by have := HM.out.1; omega)] at h)
      have HL4 := Aside0.mk (show (([86, 66, 49] : List Int) ++ (cnt m ++ ws)).length ≤ 200 by
        have := HLW.out m
        rwa [List.take_of_length_le (by have := HM.out.1; omega)] at this)
      have HLK := Aside0.mk (show ((([86, 66, 49] : List Int) ++ (cnt m ++ ws)) ++ cnt k).length ≤ 400 by
        have := HL4.out
        have := cnt_len k
        rw [List.length_append]; omega)
      clear hbA q1
      go_wp2_with (first
        | (go_at_call 13; ((with_reducible refine (counted_calls HB4.out k (by omega) (by have := HL4.out; omega)).mono ?_); rintro e w5 ⟨v, rfl, hB5, hk5⟩; obtain ⟨A5, n5, c5, hv5⟩ := hB5.slice; subst hv5; have HB5 := Aside0.mk hB5; have hb5 := hk5.same _ _ 25 (by decide) HBA'.out; have HBK5 := Aside0.mk hb5; have q3 : w5.cell? ⟨W.heap.size, 2, none⟩ = some (.slice A2 n c2) := (cell_of_heap hb5 2).trans rfl; clear hB5 hk5 hb5))
        | (go_at_call 13; go_loud ((with_reducible refine (counted_calls HB5.out n (by omega) (by have := HLK.out; omega)).mono ?_); rintro e w6 ⟨v, rfl, hB6, hk6⟩; obtain ⟨A6, n6, c6, hv6⟩ := hB6.slice; subst hv6; have HB6 := Aside0.mk hB6; have hb6 := hk6.same _ _ 25 (by decide) HBK5.out; have HBK6 := Aside0.mk hb6; have q4 : w6.cell? ⟨W.heap.size, 2, none⟩ = some (.slice A2 n c2) := (cell_of_heap hb6 2).trans rfl; clear hB6 hk6 hb6 q3)))
      obtain ⟨hd, hhd⟩ : ∃ hd, hd = ([86, 66, 49] : List Int) ++ (cnt m ++ ws) ++ cnt k ++ cnt n := ⟨_, rfl⟩
      have HHD := Aside0.mk hhd
      have HHL := Aside0.mk (show hd.length ≤ 1000 by
        have h1 := HLK.out
        have h2 := cnt_len n
        rw [hhd, List.length_append]; omega)
      rw [← hhd] at HB6
      have HLX := Aside0.mk (show ∀ j, (hd ++ encX (xs.take j)).length ≤ 400000000 from fun j => by
        have h1 := encX_len (xs.take j) (fun x hx => (HX.out x (List.mem_of_mem_take hx)).s)
        have h2 : (xs.take j).length ≤ 4096 := by have := HM.out.2; simp; omega
        have h3 := HHL.out
        rw [List.length_append]
        omega)
      clear hhd
      go_loopg [4, 48] n (fun gk v4 v48 wr => ∃ (i : Nat) (A1 : Option Addr) (n1 c1 : Nat), v4 = .slice A1 n1 c1 ∧ v48 = .int .i64 (i : Int) ∧ Aside0 (i + gk = n) ∧ Aside0 (Bow W wr (.slice A1 n1 c1) (hd ++ encX (xs.take i))))
      case atStart => exact ⟨0, A6, n6, c6, rfl, rfl, ⟨by omega⟩, ⟨by have h := HB6.out; simpa [encX] using h⟩⟩
      case round =>
        obtain ⟨i, A1, n1, c1, rfl, rfl, HI2, HR2⟩ := hrel
        by_cases hi : i < n
        · have hid : decide (i < n) = true := decide_eq_true hi
          have hii : (i : Int) < (n : Int) := by omega
          have hil : i < xs.length := by rw [← HM.out.2]; exact hi
          obtain ⟨ad, hA, d0, d1, d2, d3, d4⟩ := at_T39 (Kd.C_below H2.out HR2.out.since.b) (i : Int) (by omega) (by omega)
          subst hA
          obtain ⟨x, hx⟩ : ∃ x, x = rd_T39 xs (i : Int) := ⟨_, rfl⟩
          rw [← hx] at d0 d1 d2 d3 d4
          simp only [Int.toNat_natCast] at d0 d1 d2 d3 d4
          have hxi : x = xs[i] := by rw [hx]; simp [rd_T39, hil]
          have HXO := Aside0.mk (show XOk x by rw [hxi]; exact HX.out _ (List.getElem_mem hil))
          have HTK := Aside0.mk (show encX (xs.take (i + 1)) = encX (xs.take i) ++ encI x by
            unfold encX
            rw [hxi, List.take_succ_eq_append_getElem hil, List.flatMap_append]
            simp)
          obtain ⟨V6, hV6⟩ : ∃ V, V = wr.alloc (.cells #[.string x.f0, .int .i64 x.f1, .int .i64 x.f2, .int .i64 x.f3, .string x.f4] 39) := ⟨_, rfl⟩
          have HV6 := Aside0.mk hV6
          have S6 := Aside0.mk (show Since wr V6 by rw [hV6]; exact (Since.refl wr).alloc _)
          have BX6 := Aside0.mk (show V6.heap[wr.heap.size]? = some (.cells #[.string x.f0, .int .i64 x.f1, .int .i64 x.f2, .int .i64 x.f3, .string x.f4] 39 (0, 0)) by rw [hV6]; exact heap_alloc_new wr _)
          have hF := find_calls V6 x.f0
          obtain ⟨y, hy⟩ : ∃ y, y = fmF x.f0 := ⟨_, rfl⟩
          obtain ⟨pl, hpl⟩ : ∃ p, p = plF x.f0 := ⟨_, rfl⟩
          rw [← hy, ← hpl] at hF
          unfold agF at hF
          have HF := Aside0.mk hF
          have hp := HXO.out.p
          rw [← hpl] at hp
          have hp8 : pl % 256 = pl := by omega
          have HPL := Aside0.mk hpl
          obtain ⟨b8, hb8⟩ : ∃ b, b = wr.heap.size := ⟨_, rfl⟩
          rw [← hb8] at BX6
          have HE1 := Aside0.mk (show encI x = pl :: (cnt (zz x.f1) ++ (cnt (zz x.f2) ++ (cnt (zz x.f3) ++ (cnt x.f4.size ++ bytesOf x.f4)))) by rw [hpl]; rfl)
          have HLI := Aside0.mk (HLX.out i)
          obtain ⟨L, hL⟩ : ∃ L, L = hd ++ encX (xs.take i) := ⟨_, rfl⟩
          rw [← hL] at HLI HR2
          have HL := Aside0.mk hL
          have hwz : IntKind.u64.wrap (x.f4.size : Int) = (x.f4.size : Int) := by have := HXO.out.s; rw [IntKind.wrap_u64]; omega
          have HLC := Aside0.mk (show ∀ a : Nat, (cnt a).length ≤ 10 from cnt_len)
          clear hx hxi hil hV6 hF hy hpl hL hp
          go_wp2_with (first
            | ((with_reducible refine gate_builtin (b := .append) (xs := #[.tmp 58, .tmp 61]) rfl ?_); at_builtin; go_loud (refine list_byte rfl (.tmp 58) (.tmp 61) rfl W (w7.alloc (.cells #[.string y.f0, .int .i64 y.f1, .int .i64 y.f2, .int .i64 y.f3, .int .i64 y.f4, .int .i64 y.f5, .int .i64 y.f6] 44)) (.slice A1 n1 c1) L HB8.out rfl (by have := HLI.out; omega) pl ((show _ = Value.slice (some ⟨w7.heap.size + 1, 0, none⟩) 1 1 from rfl).trans (by simp)) ?_; intro A3 n3 c3 w9 hb9 hk9; have HB9 := Aside0.mk hb9; have BX9 := Aside0.mk (hk9.same _ _ 39 (by decide) BX8.out); clear hb9 hk9))
            | (go_at_call 14; go_loud (rw [← HV6.out, ← hb8]; refine HF.out.mono ?_; rintro e w7 ⟨rfl, hs7⟩; have S7 := Aside0.mk (S6.out.trans hs7); have BX7 := Aside0.mk (Cd.blk hs7.b BX6.out); have HB8 := Aside0.mk (HR2.out.since' (S7.out.alloc (.cells #[.string y.f0, .int .i64 y.f1, .int .i64 y.f2, .int .i64 y.f3, .int .i64 y.f4, .int .i64 y.f5, .int .i64 y.f6] 44))); have BX8 := Aside0.mk (Cd.blk ((Since.refl w7).alloc (.cells #[.string y.f0, .int .i64 y.f1, .int .i64 y.f2, .int .i64 y.f3, .int .i64 y.f4, .int .i64 y.f5, .int .i64 y.f6] 44)).b BX7.out); clear hs7)))
          have hbx := BX9.out
          have x1 : w9.drew.cell? ⟨b8, 1, none⟩ = some (.int .i64 x.f1) := (cell_of_heap (Cd.blk ((Since.refl w9).drew).b hbx) 1).trans rfl
          have x2 : w9.drew.cell? ⟨b8, 2, none⟩ = some (.int .i64 x.f2) := (cell_of_heap (Cd.blk ((Since.refl w9).drew).b hbx) 2).trans rfl
          have x3 : w9.drew.cell? ⟨b8, 3, none⟩ = some (.int .i64 x.f3) := (cell_of_heap (Cd.blk ((Since.refl w9).drew).b hbx) 3).trans rfl
          have HB10 := Aside0.mk (HB9.out.since' ((Since.refl w9).drew))
          have HXK := Aside0.mk (show ∀ w', KeptU w9.drew w' → w'.heap[b8]? = some (.cells #[.string x.f0, .int .i64 x.f1, .int .i64 x.f2, .int .i64 x.f3, .string x.f4] 39 (0, 0)) from fun w' hk => hk.same _ _ 39 (by decide) (Cd.blk ((Since.refl w9).drew).b hbx))
          have HCC := Aside0.mk (show ∀ w', KeptU w9.drew w' → (w'.cell? ⟨b8, 1, none⟩ = some (.int .i64 x.f1) ∧ w'.cell? ⟨b8, 2, none⟩ = some (.int .i64 x.f2) ∧ w'.cell? ⟨b8, 3, none⟩ = some (.int .i64 x.f3)) ∧ KeptU w9.drew w' from fun w' hk => ⟨⟨(cell_of_heap (HXK.out w' hk) 1).trans rfl, (cell_of_heap (HXK.out w' hk) 2).trans rfl, (cell_of_heap (HXK.out w' hk) 3).trans rfl⟩, hk⟩)
          rw [← hb8]
          clear hbx hb8
          go_region_held3 (fun w' => (w'.cell? ⟨b8, 1, none⟩ = some (.int .i64 x.f1) ∧ w'.cell? ⟨b8, 2, none⟩ = some (.int .i64 x.f2) ∧ w'.cell? ⟨b8, 3, none⟩ = some (.int .i64 x.f3)) ∧ KeptU w9.drew w')
            (first | exact HCC.out _ (KeptU.refl _) | exact HCC.out _ hk13 | exact HCC.out _ hk12 | exact HCC.out _ hk11)
            (first
              | (go_at_call 15; (with_reducible refine (signed_calls HB10.out x.f1 HXO.out.a (by have := HLI.out; simp; omega)).mono ?_); rintro e w11 ⟨v, rfl, hB, hk11⟩; obtain ⟨A11, n11, c11, hv11⟩ := hB.slice; subst hv11; have HB11 := Aside0.mk hB; clear hB)
              | (go_at_call 15; (with_reducible refine (signed_calls HB11.out x.f2 HXO.out.b (by have := HLI.out; have := HLC.out (zz x.f1); simp; omega)).mono ?_); rintro e w12 ⟨v, rfl, hB, hk⟩; obtain ⟨A12, n12, c12, hv12⟩ := hB.slice; subst hv12; have HB12 := Aside0.mk hB; have hk12 := hk11.trans hk; clear hB hk)
              | (go_at_call 15; (with_reducible refine (signed_calls HB12.out x.f3 HXO.out.c (by have := HLI.out; have := HLC.out (zz x.f1); have := HLC.out (zz x.f2); simp; omega)).mono ?_); rintro e w13 ⟨v, rfl, hB, hk⟩; obtain ⟨A13, n13, c13, hv13⟩ := hB.slice; subst hv13; have HB13 := Aside0.mk hB; have hk13 := hk12.trans hk; clear hB hk))
          have HB13' := HB13
          have hb13 := HXK.out w13 hk13
          have BX13 := Aside0.mk hb13
          have z4 : w13.cell? ⟨b8, 4, none⟩ = some (.string x.f4) := (cell_of_heap hb13 4).trans rfl
          have HLN := Aside0.mk (show (L ++ [pl] ++ cnt (zz x.f1) ++ cnt (zz x.f2) ++ cnt (zz x.f3)).length ≤ 400000100 by
            have := HLI.out; have := HLC.out (zz x.f1); have := HLC.out (zz x.f2); have := HLC.out (zz x.f3); simp; omega)
          have hsz := HXO.out.s
          clear hb13 hk11 hk12 hk13 x1 x2 x3
          go_split_ands
          go_wp2_with (first
            | ((with_reducible refine gate_builtin (b := .append) (xs := #[.tmp 79, .tmp 81]) rfl ?_); at_builtin; go_loud (refine list_text rfl (.tmp 79) (.tmp 81) rfl W w14 (.slice A14 n14 c14) _ HB14.out rfl x.f4 (by have := HLN.out; have := HLC.out x.f4.size; rw [List.length_append]; omega) rfl ?_; intro A15 n15 c15 w15 hb15 hk15; have HB15 := Aside0.mk hb15; clear hb15 hk15))
            | (go_at_call 13; go_loud ((with_reducible refine (counted_calls HB13.out x.f4.size (by omega) (by have := HLN.out; omega)).mono ?_); rintro e w14 ⟨v, rfl, hB, hk⟩; obtain ⟨A14, n14, c14, hv14⟩ := hB.slice; subst hv14; have HB14 := Aside0.mk hB; have hb14 := hk.same _ _ 39 (by decide) BX13.out; have z4' : w14.cell? ⟨b8, 4, none⟩ = some (.string x.f4) := (cell_of_heap hb14 4).trans rfl; clear hB hk hb14)))
          obtain ⟨k2, hk2⟩ : ∃ k2, k2 = gk - 1 := ⟨_, rfl⟩
          go_roundg k2
          case measure => have := HI2.out; omega
          case rel => exact ⟨i + 1, A15, n15, c15, rfl, by go_num, ⟨by have := HI2.out; omega⟩, ⟨by have h := HB15.out; rw [HTK.out, HE1.out]; rw [HL.out] at h; simpa [List.append_assoc] using h⟩⟩
        · have hid : decide (i < n) = false := decide_eq_false hi
          have hii : ¬ (i : Int) < (n : Int) := by omega
          have HB20 := Aside0.mk (show Bow W wr (.slice A1 n1 c1) (encL ws (k : Int) xs) by
            have h := HR2.out
            rw [List.take_of_length_le (by have := HM.out.2; omega), HHD.out] at h
            unfold encL
            rw [← HM.out.1, ← HM.out.2, show ((k : Int)).toNat = k from by omega]
            simpa [List.append_assoc] using h)
          go_wp2_with fail
          go_ret2
          exact ⟨_, rfl, HB20.out⟩

end Go.Proofs.Ytdecgknnbegobaa.Cd
