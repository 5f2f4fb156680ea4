/- The checker: instr, where it may be. -/
import Derived.Test.YtdecgknnbegobaaK1
namespace Go.Proofs.Ytdecgknnbegobaa.Cd
open Go.RowKit Go.Lib Go.Maps Go.Proofs.Ytdecgknnbegobaa.D Go.Proofs.YtdecgknnbegobaaW.PrintWords Go.Proofs.YtdecgknnbegobaaW.PrintLast Go.Proofs.YtdecgknnbegobaaW.PrintMore
set_option linter.unusedVariables false
set_option linter.unusedSimpArgs false

section
variable {w0 w : World} {bw bm : Nat} {A0 : Option Addr} {c0 : Nat} {ws : List Int} {rg : Int} {A2 : Option Addr} {n2 c2 : Nat} {n : Nat} {D : Dm} {ve vj : Value} {ev : List Bool} {jm : List Int}
/-- What an instruction leaves that may be. -/
def InsYes (w0 w : World) (bw bm : Nat) (A0 : Option Addr) (c0 : Nat) (ws : List Int) (rg : Int) (A2 : Option Addr) (n2 c2 n : Nat) (D : Dm) (ve : Value) (ev : List Bool) (jm : List Int) (t p : Int) (ok : Bool) (e : Ending) (w' : World) : Prop :=
  e = .returned (.tuple #[.int .i64 t, .int .i64 p, .bool ok]) ∧ (∃ vj' n', n' ≤ n + 1 ∧ Ck w0 w' bw bm A0 c0 ws rg A2 n2 c2 n' D ve vj' ev jm) ∧ KeptT w w'
theorem Ck.slot (h : Ck w0 w bw bm A0 c0 ws rg A2 n2 c2 n D ve vj ev jm) {w7 : World} {a b : Int} (hg : w.grownBy w7 (some bm)) (hb : 0 ≤ b ∧ b < ws.length) (hm : w7.ownsMap Try.prog 3 (plainElem Try.prog 3) bm (n + 1) (D.put (kLit a) (.lit (.int .i64 b)))) :
    Ck w0 w7 bw bm A0 c0 ws rg A2 n2 c2 (n + 1) (D.put (kLit a) (.lit (.int .i64 b))) ve vj ev jm ∧ KeptT w w7 := by
  obtain ⟨es, clock, hmb⟩ := h.mapB
  have hne : ∀ k cells t, w.heap[k]? = some (.cells cells t (0, 0)) → k ≠ bm := fun k cells t hk e => by rw [e, hmb] at hk; cases hk
  have hcells : ∀ (k : Nat) (cells : Array Value) (t : TypeId), w.heap[k]? = some (Obj.cells cells t (0, 0)) → w7.heap[k]? = some (Obj.cells cells t (0, 0)) := fun k cells t hk => (hg.block k (blk_lt hk) (fun e => hne k cells t hk (Option.some.inj e))).trans hk
  have hD := h.map.isMap
  have hK : Go.WideAt.IsKeyLit (kLit a) := by first | exact trivial | exact ⟨_, _, rfl⟩ | simp [Go.WideAt.IsKeyLit, kLit]
  refine ⟨⟨⟨⟨hg.os.trans h.since.b.os, hg.tape.trans h.since.b.tape, hg.output.trans h.since.b.output, Nat.le_trans h.since.b.size hg.size, fun k hk => (hg.block k (Nat.lt_of_lt_of_le hk h.since.b.size) (fun e => by have := Option.some.inj e; have := h.hm; omega)).trans (h.since.b.block k hk)⟩⟩, h.hw, h.hm, hcells _ _ _ h.blk, h.W, h.le, h.l128, h.w8, h.r256, hm, fun a' ha => ?_, own_move h.he fun k hk => ?_, own_move h.hj fun k hk => ?_⟩, ⟨hg.size, fun k cells t _ _ _ hk => hcells k cells t hk⟩⟩
  · by_cases e : a' = a
    · subst e
      have : atD (D.put (kLit a') (.lit (.int .i64 b))) a' = b := by unfold atD; rw [atKey_put_same hD hK]
      rw [this]; exact hb
    · have hne2 : kLit a' ≠ kLit a := fun h => e (by unfold kLit at h; injection h)
      have e1 : hasD (D.put (kLit a) (.lit (.int .i64 b))) a' = hasD D a' := by unfold hasD; rw [has_put_other hne2]
      have e2 : atD (D.put (kLit a) (.lit (.int .i64 b))) a' = atD D a' := by unfold atD; rw [atKey_put_other hne2]
      rw [e2]
      exact h.ok _ (by rw [← e1]; exact ha)
  · obtain ⟨cs, hc⟩ := own_typed h.he k hk
    rw [hc]; exact hcells _ _ _ hc
  · obtain ⟨cs, hc⟩ := own_typed h.hj k hk
    rw [hc]; exact hcells _ _ _ hc

set_option maxHeartbeats 4000000 in
set_option maxRecDepth 100000 in
theorem instr_con (h : Ck w0 w bw bm A0 c0 ws rg A2 n2 c2 n D ve vj ev jm) (hj : jm.length ≤ 50000) (hn : n ≤ 50000) (x : S39) (hx : x.f4.size ≤ 9223372036854775800) (q0 : 0 ≤ plF x.f0) (q1 : numB ws rg D (fmF x.f0).f3 x.f1 x = true) (q2 : numB ws rg D (fmF x.f0).f4 x.f2 x = true) (q3 : numB ws rg D (fmF x.f0).f5 x.f3 x = true) (q4 : textB (fmF x.f0).f6 x.f4 = true) (o_con : (x.f0.toList == [99, 111, 110]) = true) :
    Calls Try.prog 23 #[.pointer (some ⟨bw, 0, none⟩), agI x] w (InsYes w0 w bw bm A0 c0 ws rg A2 n2 c2 n D ve ev (insJ x jm) (x.f1) ((fmF x.f0).f2) (true)) := by
  obtain ⟨V, hV⟩ : ∃ V, V = w.alloc (.cells #[.string x.f0, .int .i64 x.f1, .int .i64 x.f2, .int .i64 x.f3, .string x.f4] 39) := ⟨_, rfl⟩
  have S0 := Aside0.mk (show Since w V by rw [hV]; exact (Since.refl w).alloc _)
  have HV := Aside0.mk hV
  have HB := Aside0.mk (show V.heap[w.heap.size]? = some (.cells #[.string x.f0, .int .i64 x.f1, .int .i64 x.f2, .int .i64 x.f3, .string x.f4] 39 (0, 0)) by rw [hV]; exact heap_alloc_new w _)
  have HC := Aside0.mk (h.go S0.out)
  have hok := forms_ok x.f0
  have hop := fun h => fm_op (op := x.f0) h
  have hFind := fun w => find_calls w x.f0
  obtain ⟨f, hf⟩ : ∃ f, f = fmF x.f0 := ⟨_, rfl⟩
  obtain ⟨pl, hpl⟩ : ∃ p, p = plF x.f0 := ⟨_, rfl⟩
  rw [← hf] at hok hop hFind
  rw [← hpl] at hop hFind
  have HFind := Aside0.mk (show ∀ w, Calls Try.prog 14 #[.string x.f0] w (fun e w' => e = .returned (.tuple #[.agg #[.string f.f0, .int .i64 f.f1, .int .i64 f.f2, .int .i64 f.f3, .int .i64 f.f4, .int .i64 f.f5, .int .i64 f.f6], .int .i64 pl]) ∧ Since w w') from hFind)
  have HOK := Aside0.mk hok
  have HOP := Aside0.mk hop
  have HF := Aside0.mk (And.intro hf hpl)
  simp only [formOk, Bool.and_eq_true, Bool.or_eq_true, decide_eq_true_eq] at hok
  obtain ⟨⟨⟨⟨⟨⟨⟨⟨⟨⟨⟨e1, e2⟩, e3⟩, e4⟩, e5⟩, e6⟩, e7⟩, e8⟩, e9⟩, e10⟩, e11⟩, e12⟩ := hok
  have NK := Aside0.mk (And.intro e1 (And.intro e2 (And.intro e3 (And.intro e4 e5))))
  have NE := Aside0.mk (And.intro e6 (And.intro e7 (And.intro e8 (And.intro e9 (And.intro e10 (And.intro e11 e12))))))
  rw [← hf] at q1 q2 q3 q4
  rw [← hpl] at q0
  have q0' : decide (pl < 0) = false := decide_eq_false (by omega)
  have hJ : insJ x jm = numJ f.f5 x.f3 (numJ f.f4 x.f2 (numJ f.f3 x.f1 jm)) := by rw [hf]; rfl
  rw [hJ]
  try rw [← hf]
  clear hJ
  have T1 := True.intro
  have T2 := True.intro
  have T3 := True.intro
  have Q1 := Aside0.mk q1
  have Q2 := Aside0.mk q2
  have Q3 := Aside0.mk q3
  have Q4 := Aside0.mk q4
  have Q0 := Aside0.mk q0
  have P3 := Aside0.mk (show f.f5 = 3 → isOp x.f0 [109, 97, 116, 99, 104] = false → 0 ≤ x.f1 ∧ x.f1 < 64 from fun h5 hm => by
    rcases NK.out.2.2.2.2 with (h | h) | h
    · exact absurd h5 h
    · rw [HOP.out (by omega)] at h
      exact absurd (show isOp x.f0 [109, 97, 116, 99, 104] = true from h) (by rw [hm]; decide)
    · have h3 : f.f3 = 5 := eq_of_beq h
      have hq := Q1.out
      rw [h3] at hq
      unfold numB at hq
      simpa using hq)
  have P6 := Aside0.mk (show f.f5 = 6 → 0 ≤ x.f2 ∧ x.f2 < ws.length from fun h5 => by
    rcases NE.out.1 with h | h
    · exact absurd h5 h
    · have h3 : f.f4 = 4 := eq_of_beq h
      have hq := Q2.out
      rw [h3] at hq
      unfold numB at hq
      simpa using hq)
  clear hV hf hpl h hFind hop e1 e2 e3 e4 e5 e6 e7 e8 e9 e10 e11 e12 q1 q2 q3 q4
  show Calls Try.prog 23 #[.pointer (some ⟨bw, 0, none⟩), .agg #[.string x.f0, .int .i64 x.f1, .int .i64 x.f2, .int .i64 x.f3, .string x.f4]] w _
  go_enter Try.func23, Try.ntmps23
  go_wp2_with (first
      | (go_at_call 14; rw [← HV.out]; refine (HFind.out V).mono ?_; rintro e1 w1 ⟨rfl, hs1⟩; have S1 := Aside0.mk hs1; have BXa := Aside0.mk (blk_alloc (Cd.blk hs1.b HB.out) (.cells #[.string f.f0, .int .i64 f.f1, .int .i64 f.f2, .int .i64 f.f3, .int .i64 f.f4, .int .i64 f.f5, .int .i64 f.f6] 44)); have BFa := Aside0.mk (heap_alloc_new w1 (.cells #[.string f.f0, .int .i64 f.f1, .int .i64 f.f2, .int .i64 f.f3, .int .i64 f.f4, .int .i64 f.f5, .int .i64 f.f6] 44)); have C1 := Aside0.mk (HC.out.go (hs1.alloc (.cells #[.string f.f0, .int .i64 f.f1, .int .i64 f.f2, .int .i64 f.f3, .int .i64 f.f4, .int .i64 f.f5, .int .i64 f.f6] 44))); have xa0 : (w1.alloc (.cells #[.string f.f0, .int .i64 f.f1, .int .i64 f.f2, .int .i64 f.f3, .int .i64 f.f4, .int .i64 f.f5, .int .i64 f.f6] 44)).cell? ⟨w.heap.size, 0, none⟩ = some (.string x.f0) := (cell_of_heap BXa.out 0).trans rfl; have xa1 : (w1.alloc (.cells #[.string f.f0, .int .i64 f.f1, .int .i64 f.f2, .int .i64 f.f3, .int .i64 f.f4, .int .i64 f.f5, .int .i64 f.f6] 44)).cell? ⟨w.heap.size, 1, none⟩ = some (.int .i64 x.f1) := (cell_of_heap BXa.out 1).trans rfl; have xa2 : (w1.alloc (.cells #[.string f.f0, .int .i64 f.f1, .int .i64 f.f2, .int .i64 f.f3, .int .i64 f.f4, .int .i64 f.f5, .int .i64 f.f6] 44)).cell? ⟨w.heap.size, 2, none⟩ = some (.int .i64 x.f2) := (cell_of_heap BXa.out 2).trans rfl; have xa3 : (w1.alloc (.cells #[.string f.f0, .int .i64 f.f1, .int .i64 f.f2, .int .i64 f.f3, .int .i64 f.f4, .int .i64 f.f5, .int .i64 f.f6] 44)).cell? ⟨w.heap.size, 3, none⟩ = some (.int .i64 x.f3) := (cell_of_heap BXa.out 3).trans rfl; have xa4 : (w1.alloc (.cells #[.string f.f0, .int .i64 f.f1, .int .i64 f.f2, .int .i64 f.f3, .int .i64 f.f4, .int .i64 f.f5, .int .i64 f.f6] 44)).cell? ⟨w.heap.size, 4, none⟩ = some (.string x.f4) := (cell_of_heap BXa.out 4).trans rfl; have fa1 : (w1.alloc (.cells #[.string f.f0, .int .i64 f.f1, .int .i64 f.f2, .int .i64 f.f3, .int .i64 f.f4, .int .i64 f.f5, .int .i64 f.f6] 44)).cell? ⟨w1.heap.size, 1, none⟩ = some (.int .i64 f.f1) := (cell_of_heap BFa.out 1).trans rfl; have fa2 : (w1.alloc (.cells #[.string f.f0, .int .i64 f.f1, .int .i64 f.f2, .int .i64 f.f3, .int .i64 f.f4, .int .i64 f.f5, .int .i64 f.f6] 44)).cell? ⟨w1.heap.size, 2, none⟩ = some (.int .i64 f.f2) := (cell_of_heap BFa.out 2).trans rfl; have fa3 : (w1.alloc (.cells #[.string f.f0, .int .i64 f.f1, .int .i64 f.f2, .int .i64 f.f3, .int .i64 f.f4, .int .i64 f.f5, .int .i64 f.f6] 44)).cell? ⟨w1.heap.size, 3, none⟩ = some (.int .i64 f.f3) := (cell_of_heap BFa.out 3).trans rfl; have fa4 : (w1.alloc (.cells #[.string f.f0, .int .i64 f.f1, .int .i64 f.f2, .int .i64 f.f3, .int .i64 f.f4, .int .i64 f.f5, .int .i64 f.f6] 44)).cell? ⟨w1.heap.size, 4, none⟩ = some (.int .i64 f.f4) := (cell_of_heap BFa.out 4).trans rfl; have fa5 : (w1.alloc (.cells #[.string f.f0, .int .i64 f.f1, .int .i64 f.f2, .int .i64 f.f3, .int .i64 f.f4, .int .i64 f.f5, .int .i64 f.f6] 44)).cell? ⟨w1.heap.size, 5, none⟩ = some (.int .i64 f.f5) := (cell_of_heap BFa.out 5).trans rfl; have fa6 : (w1.alloc (.cells #[.string f.f0, .int .i64 f.f1, .int .i64 f.f2, .int .i64 f.f3, .int .i64 f.f4, .int .i64 f.f5, .int .i64 f.f6] 44)).cell? ⟨w1.heap.size, 6, none⟩ = some (.int .i64 f.f6) := (cell_of_heap BFa.out 6).trans rfl; clear hs1) 
      | (go_at_call 34; have htok := T1; have hN := number_calls C1.out (by omega) f.f3 x.f1 x hx (fun h => absurd h NK.out.1) (fun h => absurd h NK.out.2.1); rw [Q1.out] at hN; refine hN.mono ?_; clear T1 htok hN; rintro e2 w2 ⟨rfl, ⟨vj1, hc2⟩, hk2⟩; have C2 := Aside0.mk hc2; have K1 := Aside0.mk hk2; have BXb := Aside0.mk (hk2.same _ _ 39 (by decide) (by decide) (by decide) BXa.out); have BFb := Aside0.mk (hk2.same _ _ 44 (by decide) (by decide) (by decide) BFa.out); have xb0 : (w2).cell? ⟨w.heap.size, 0, none⟩ = some (.string x.f0) := (cell_of_heap BXb.out 0).trans rfl; have xb1 : (w2).cell? ⟨w.heap.size, 1, none⟩ = some (.int .i64 x.f1) := (cell_of_heap BXb.out 1).trans rfl; have xb2 : (w2).cell? ⟨w.heap.size, 2, none⟩ = some (.int .i64 x.f2) := (cell_of_heap BXb.out 2).trans rfl; have xb3 : (w2).cell? ⟨w.heap.size, 3, none⟩ = some (.int .i64 x.f3) := (cell_of_heap BXb.out 3).trans rfl; have xb4 : (w2).cell? ⟨w.heap.size, 4, none⟩ = some (.string x.f4) := (cell_of_heap BXb.out 4).trans rfl; have fb1 : (w2).cell? ⟨w1.heap.size, 1, none⟩ = some (.int .i64 f.f1) := (cell_of_heap BFb.out 1).trans rfl; have fb2 : (w2).cell? ⟨w1.heap.size, 2, none⟩ = some (.int .i64 f.f2) := (cell_of_heap BFb.out 2).trans rfl; have fb3 : (w2).cell? ⟨w1.heap.size, 3, none⟩ = some (.int .i64 f.f3) := (cell_of_heap BFb.out 3).trans rfl; have fb4 : (w2).cell? ⟨w1.heap.size, 4, none⟩ = some (.int .i64 f.f4) := (cell_of_heap BFb.out 4).trans rfl; have fb5 : (w2).cell? ⟨w1.heap.size, 5, none⟩ = some (.int .i64 f.f5) := (cell_of_heap BFb.out 5).trans rfl; have fb6 : (w2).cell? ⟨w1.heap.size, 6, none⟩ = some (.int .i64 f.f6) := (cell_of_heap BFb.out 6).trans rfl; clear hc2 hk2) 
      | (go_at_call 34; have htok := T2; have hN := number_calls C2.out (by have := numJ_len f.f3 x.f1 jm; omega) f.f4 x.f2 x hx (fun h => absurd h NK.out.2.2.1) (fun h => absurd h NK.out.2.2.2.1); rw [Q2.out] at hN; refine hN.mono ?_; clear T2 htok hN; rintro e2 w3 ⟨rfl, ⟨vj2, hc2⟩, hk2⟩; have C3 := Aside0.mk hc2; have K2 := Aside0.mk hk2; have BXc := Aside0.mk (hk2.same _ _ 39 (by decide) (by decide) (by decide) BXb.out); have BFc := Aside0.mk (hk2.same _ _ 44 (by decide) (by decide) (by decide) BFb.out); have xc0 : (w3).cell? ⟨w.heap.size, 0, none⟩ = some (.string x.f0) := (cell_of_heap BXc.out 0).trans rfl; have xc1 : (w3).cell? ⟨w.heap.size, 1, none⟩ = some (.int .i64 x.f1) := (cell_of_heap BXc.out 1).trans rfl; have xc2 : (w3).cell? ⟨w.heap.size, 2, none⟩ = some (.int .i64 x.f2) := (cell_of_heap BXc.out 2).trans rfl; have xc3 : (w3).cell? ⟨w.heap.size, 3, none⟩ = some (.int .i64 x.f3) := (cell_of_heap BXc.out 3).trans rfl; have xc4 : (w3).cell? ⟨w.heap.size, 4, none⟩ = some (.string x.f4) := (cell_of_heap BXc.out 4).trans rfl; have fc1 : (w3).cell? ⟨w1.heap.size, 1, none⟩ = some (.int .i64 f.f1) := (cell_of_heap BFc.out 1).trans rfl; have fc2 : (w3).cell? ⟨w1.heap.size, 2, none⟩ = some (.int .i64 f.f2) := (cell_of_heap BFc.out 2).trans rfl; have fc3 : (w3).cell? ⟨w1.heap.size, 3, none⟩ = some (.int .i64 f.f3) := (cell_of_heap BFc.out 3).trans rfl; have fc4 : (w3).cell? ⟨w1.heap.size, 4, none⟩ = some (.int .i64 f.f4) := (cell_of_heap BFc.out 4).trans rfl; have fc5 : (w3).cell? ⟨w1.heap.size, 5, none⟩ = some (.int .i64 f.f5) := (cell_of_heap BFc.out 5).trans rfl; have fc6 : (w3).cell? ⟨w1.heap.size, 6, none⟩ = some (.int .i64 f.f6) := (cell_of_heap BFc.out 6).trans rfl; clear hc2 hk2) 
      | (go_at_call 34; have htok := T3; have hN := number_calls C3.out (by have := numJ_len f.f3 x.f1 jm; have := numJ_len f.f4 x.f2 (numJ f.f3 x.f1 jm); omega) f.f5 x.f3 x hx P3.out P6.out; rw [Q3.out] at hN; refine hN.mono ?_; clear T3 htok hN; rintro e2 w4 ⟨rfl, ⟨vj3, hc2⟩, hk2⟩; have C4 := Aside0.mk hc2; have K3 := Aside0.mk hk2; have BXd := Aside0.mk (hk2.same _ _ 39 (by decide) (by decide) (by decide) BXc.out); have BFd := Aside0.mk (hk2.same _ _ 44 (by decide) (by decide) (by decide) BFc.out); have xd0 : (w4).cell? ⟨w.heap.size, 0, none⟩ = some (.string x.f0) := (cell_of_heap BXd.out 0).trans rfl; have xd1 : (w4).cell? ⟨w.heap.size, 1, none⟩ = some (.int .i64 x.f1) := (cell_of_heap BXd.out 1).trans rfl; have xd2 : (w4).cell? ⟨w.heap.size, 2, none⟩ = some (.int .i64 x.f2) := (cell_of_heap BXd.out 2).trans rfl; have xd3 : (w4).cell? ⟨w.heap.size, 3, none⟩ = some (.int .i64 x.f3) := (cell_of_heap BXd.out 3).trans rfl; have xd4 : (w4).cell? ⟨w.heap.size, 4, none⟩ = some (.string x.f4) := (cell_of_heap BXd.out 4).trans rfl; have fd1 : (w4).cell? ⟨w1.heap.size, 1, none⟩ = some (.int .i64 f.f1) := (cell_of_heap BFd.out 1).trans rfl; have fd2 : (w4).cell? ⟨w1.heap.size, 2, none⟩ = some (.int .i64 f.f2) := (cell_of_heap BFd.out 2).trans rfl; have fd3 : (w4).cell? ⟨w1.heap.size, 3, none⟩ = some (.int .i64 f.f3) := (cell_of_heap BFd.out 3).trans rfl; have fd4 : (w4).cell? ⟨w1.heap.size, 4, none⟩ = some (.int .i64 f.f4) := (cell_of_heap BFd.out 4).trans rfl; have fd5 : (w4).cell? ⟨w1.heap.size, 5, none⟩ = some (.int .i64 f.f5) := (cell_of_heap BFd.out 5).trans rfl; have fd6 : (w4).cell? ⟨w1.heap.size, 6, none⟩ = some (.int .i64 f.f6) := (cell_of_heap BFd.out 6).trans rfl; clear hc2 hk2) 
      | (go_at_call 35; have hT := texts_calls f.f6 x.f4 hx w4; rw [Q4.out] at hT; refine hT.mono ?_; clear hT; rintro e5 w5 ⟨rfl, hs5⟩; have S5 := Aside0.mk hs5; have C5 := Aside0.mk (C4.out.go hs5); have BXe := Aside0.mk (Cd.blk hs5.b BXd.out); have BFe := Aside0.mk (Cd.blk hs5.b BFd.out); have xe0 : (w5).cell? ⟨w.heap.size, 0, none⟩ = some (.string x.f0) := (cell_of_heap BXe.out 0).trans rfl; have xe1 : (w5).cell? ⟨w.heap.size, 1, none⟩ = some (.int .i64 x.f1) := (cell_of_heap BXe.out 1).trans rfl; have xe2 : (w5).cell? ⟨w.heap.size, 2, none⟩ = some (.int .i64 x.f2) := (cell_of_heap BXe.out 2).trans rfl; have xe3 : (w5).cell? ⟨w.heap.size, 3, none⟩ = some (.int .i64 x.f3) := (cell_of_heap BXe.out 3).trans rfl; have xe4 : (w5).cell? ⟨w.heap.size, 4, none⟩ = some (.string x.f4) := (cell_of_heap BXe.out 4).trans rfl; have fe1 : (w5).cell? ⟨w1.heap.size, 1, none⟩ = some (.int .i64 f.f1) := (cell_of_heap BFe.out 1).trans rfl; have fe2 : (w5).cell? ⟨w1.heap.size, 2, none⟩ = some (.int .i64 f.f2) := (cell_of_heap BFe.out 2).trans rfl; have fe3 : (w5).cell? ⟨w1.heap.size, 3, none⟩ = some (.int .i64 f.f3) := (cell_of_heap BFe.out 3).trans rfl; have fe4 : (w5).cell? ⟨w1.heap.size, 4, none⟩ = some (.int .i64 f.f4) := (cell_of_heap BFe.out 4).trans rfl; have fe5 : (w5).cell? ⟨w1.heap.size, 5, none⟩ = some (.int .i64 f.f5) := (cell_of_heap BFe.out 5).trans rfl; have fe6 : (w5).cell? ⟨w1.heap.size, 6, none⟩ = some (.int .i64 f.f6) := (cell_of_heap BFe.out 6).trans rfl; have c5 := C5.out.c; clear hs5))
  go_region
  all_goals go_wp2_with fail
  all_goals exact bodyPost_ret (v := .tuple #[.int .i64 (x.f1), .int .i64 (f.f2), .bool (true)]) (by simp [results, Try.results23, go_sem]) rfl ⟨rfl, ⟨_, _, by omega, C5.out.go (Since.refl _).drew⟩, (((((KeptT.since (S0.out.trans (S1.out.alloc (.cells #[.string f.f0, .int .i64 f.f1, .int .i64 f.f2, .int .i64 f.f3, .int .i64 f.f4, .int .i64 f.f5, .int .i64 f.f6] 44)))).trans K1.out).trans K2.out).trans K3.out).trans (KeptT.since S5.out)).trans (KeptT.since (Since.refl _).drew)⟩

set_option maxHeartbeats 4000000 in
set_option maxRecDepth 100000 in
theorem instr_oth (h : Ck w0 w bw bm A0 c0 ws rg A2 n2 c2 n D ve vj ev jm) (hj : jm.length ≤ 50000) (hn : n ≤ 50000) (x : S39) (hx : x.f4.size ≤ 9223372036854775800) (q0 : 0 ≤ plF x.f0) (q1 : numB ws rg D (fmF x.f0).f3 x.f1 x = true) (q2 : numB ws rg D (fmF x.f0).f4 x.f2 x = true) (q3 : numB ws rg D (fmF x.f0).f5 x.f3 x = true) (q4 : textB (fmF x.f0).f6 x.f4 = true) (o_con : (x.f0.toList == [99, 111, 110]) = false) (o_open : (x.f0.toList == [111, 112, 101, 110]) = false) (o_has : (x.f0.toList == [104, 97, 115]) = false) (o_not : (x.f0.toList == [110, 111, 116]) = false) (o_put : (x.f0.toList == [112, 117, 116]) = false) (o_swap : (x.f0.toList == [115, 119, 97, 112]) = false) (o_merge : (x.f0.toList == [109, 101, 114, 103, 101]) = false) :
    Calls Try.prog 23 #[.pointer (some ⟨bw, 0, none⟩), agI x] w (InsYes w0 w bw bm A0 c0 ws rg A2 n2 c2 n D ve ev (insJ x jm) ((fmF x.f0).f1) ((fmF x.f0).f2) (true)) := by
  obtain ⟨V, hV⟩ : ∃ V, V = w.alloc (.cells #[.string x.f0, .int .i64 x.f1, .int .i64 x.f2, .int .i64 x.f3, .string x.f4] 39) := ⟨_, rfl⟩
  have S0 := Aside0.mk (show Since w V by rw [hV]; exact (Since.refl w).alloc _)
  have HV := Aside0.mk hV
  have HB := Aside0.mk (show V.heap[w.heap.size]? = some (.cells #[.string x.f0, .int .i64 x.f1, .int .i64 x.f2, .int .i64 x.f3, .string x.f4] 39 (0, 0)) by rw [hV]; exact heap_alloc_new w _)
  have HC := Aside0.mk (h.go S0.out)
  have hok := forms_ok x.f0
  have hop := fun h => fm_op (op := x.f0) h
  have hFind := fun w => find_calls w x.f0
  obtain ⟨f, hf⟩ : ∃ f, f = fmF x.f0 := ⟨_, rfl⟩
  obtain ⟨pl, hpl⟩ : ∃ p, p = plF x.f0 := ⟨_, rfl⟩
  rw [← hf] at hok hop hFind
  rw [← hpl] at hop hFind
  have HFind := Aside0.mk (show ∀ w, Calls Try.prog 14 #[.string x.f0] w (fun e w' => e = .returned (.tuple #[.agg #[.string f.f0, .int .i64 f.f1, .int .i64 f.f2, .int .i64 f.f3, .int .i64 f.f4, .int .i64 f.f5, .int .i64 f.f6], .int .i64 pl]) ∧ Since w w') from hFind)
  have HOK := Aside0.mk hok
  have HOP := Aside0.mk hop
  have HF := Aside0.mk (And.intro hf hpl)
  simp only [formOk, Bool.and_eq_true, Bool.or_eq_true, decide_eq_true_eq] at hok
  obtain ⟨⟨⟨⟨⟨⟨⟨⟨⟨⟨⟨e1, e2⟩, e3⟩, e4⟩, e5⟩, e6⟩, e7⟩, e8⟩, e9⟩, e10⟩, e11⟩, e12⟩ := hok
  have NK := Aside0.mk (And.intro e1 (And.intro e2 (And.intro e3 (And.intro e4 e5))))
  have NE := Aside0.mk (And.intro e6 (And.intro e7 (And.intro e8 (And.intro e9 (And.intro e10 (And.intro e11 e12))))))
  rw [← hf] at q1 q2 q3 q4
  rw [← hpl] at q0
  have q0' : decide (pl < 0) = false := decide_eq_false (by omega)
  have hJ : insJ x jm = numJ f.f5 x.f3 (numJ f.f4 x.f2 (numJ f.f3 x.f1 jm)) := by rw [hf]; rfl
  rw [hJ]
  try rw [← hf]
  clear hJ
  have T1 := True.intro
  have T2 := True.intro
  have T3 := True.intro
  have Q1 := Aside0.mk q1
  have Q2 := Aside0.mk q2
  have Q3 := Aside0.mk q3
  have Q4 := Aside0.mk q4
  have Q0 := Aside0.mk q0
  have P3 := Aside0.mk (show f.f5 = 3 → isOp x.f0 [109, 97, 116, 99, 104] = false → 0 ≤ x.f1 ∧ x.f1 < 64 from fun h5 hm => by
    rcases NK.out.2.2.2.2 with (h | h) | h
    · exact absurd h5 h
    · rw [HOP.out (by omega)] at h
      exact absurd (show isOp x.f0 [109, 97, 116, 99, 104] = true from h) (by rw [hm]; decide)
    · have h3 : f.f3 = 5 := eq_of_beq h
      have hq := Q1.out
      rw [h3] at hq
      unfold numB at hq
      simpa using hq)
  have P6 := Aside0.mk (show f.f5 = 6 → 0 ≤ x.f2 ∧ x.f2 < ws.length from fun h5 => by
    rcases NE.out.1 with h | h
    · exact absurd h5 h
    · have h3 : f.f4 = 4 := eq_of_beq h
      have hq := Q2.out
      rw [h3] at hq
      unfold numB at hq
      simpa using hq)
  clear hV hf hpl h hFind hop e1 e2 e3 e4 e5 e6 e7 e8 e9 e10 e11 e12 q1 q2 q3 q4
  show Calls Try.prog 23 #[.pointer (some ⟨bw, 0, none⟩), .agg #[.string x.f0, .int .i64 x.f1, .int .i64 x.f2, .int .i64 x.f3, .string x.f4]] w _
  go_enter Try.func23, Try.ntmps23
  go_wp2_with (first
      | (go_at_call 14; rw [← HV.out]; refine (HFind.out V).mono ?_; rintro e1 w1 ⟨rfl, hs1⟩; have S1 := Aside0.mk hs1; have BXa := Aside0.mk (blk_alloc (Cd.blk hs1.b HB.out) (.cells #[.string f.f0, .int .i64 f.f1, .int .i64 f.f2, .int .i64 f.f3, .int .i64 f.f4, .int .i64 f.f5, .int .i64 f.f6] 44)); have BFa := Aside0.mk (heap_alloc_new w1 (.cells #[.string f.f0, .int .i64 f.f1, .int .i64 f.f2, .int .i64 f.f3, .int .i64 f.f4, .int .i64 f.f5, .int .i64 f.f6] 44)); have C1 := Aside0.mk (HC.out.go (hs1.alloc (.cells #[.string f.f0, .int .i64 f.f1, .int .i64 f.f2, .int .i64 f.f3, .int .i64 f.f4, .int .i64 f.f5, .int .i64 f.f6] 44))); have xa0 : (w1.alloc (.cells #[.string f.f0, .int .i64 f.f1, .int .i64 f.f2, .int .i64 f.f3, .int .i64 f.f4, .int .i64 f.f5, .int .i64 f.f6] 44)).cell? ⟨w.heap.size, 0, none⟩ = some (.string x.f0) := (cell_of_heap BXa.out 0).trans rfl; have xa1 : (w1.alloc (.cells #[.string f.f0, .int .i64 f.f1, .int .i64 f.f2, .int .i64 f.f3, .int .i64 f.f4, .int .i64 f.f5, .int .i64 f.f6] 44)).cell? ⟨w.heap.size, 1, none⟩ = some (.int .i64 x.f1) := (cell_of_heap BXa.out 1).trans rfl; have xa2 : (w1.alloc (.cells #[.string f.f0, .int .i64 f.f1, .int .i64 f.f2, .int .i64 f.f3, .int .i64 f.f4, .int .i64 f.f5, .int .i64 f.f6] 44)).cell? ⟨w.heap.size, 2, none⟩ = some (.int .i64 x.f2) := (cell_of_heap BXa.out 2).trans rfl; have xa3 : (w1.alloc (.cells #[.string f.f0, .int .i64 f.f1, .int .i64 f.f2, .int .i64 f.f3, .int .i64 f.f4, .int .i64 f.f5, .int .i64 f.f6] 44)).cell? ⟨w.heap.size, 3, none⟩ = some (.int .i64 x.f3) := (cell_of_heap BXa.out 3).trans rfl; have xa4 : (w1.alloc (.cells #[.string f.f0, .int .i64 f.f1, .int .i64 f.f2, .int .i64 f.f3, .int .i64 f.f4, .int .i64 f.f5, .int .i64 f.f6] 44)).cell? ⟨w.heap.size, 4, none⟩ = some (.string x.f4) := (cell_of_heap BXa.out 4).trans rfl; have fa1 : (w1.alloc (.cells #[.string f.f0, .int .i64 f.f1, .int .i64 f.f2, .int .i64 f.f3, .int .i64 f.f4, .int .i64 f.f5, .int .i64 f.f6] 44)).cell? ⟨w1.heap.size, 1, none⟩ = some (.int .i64 f.f1) := (cell_of_heap BFa.out 1).trans rfl; have fa2 : (w1.alloc (.cells #[.string f.f0, .int .i64 f.f1, .int .i64 f.f2, .int .i64 f.f3, .int .i64 f.f4, .int .i64 f.f5, .int .i64 f.f6] 44)).cell? ⟨w1.heap.size, 2, none⟩ = some (.int .i64 f.f2) := (cell_of_heap BFa.out 2).trans rfl; have fa3 : (w1.alloc (.cells #[.string f.f0, .int .i64 f.f1, .int .i64 f.f2, .int .i64 f.f3, .int .i64 f.f4, .int .i64 f.f5, .int .i64 f.f6] 44)).cell? ⟨w1.heap.size, 3, none⟩ = some (.int .i64 f.f3) := (cell_of_heap BFa.out 3).trans rfl; have fa4 : (w1.alloc (.cells #[.string f.f0, .int .i64 f.f1, .int .i64 f.f2, .int .i64 f.f3, .int .i64 f.f4, .int .i64 f.f5, .int .i64 f.f6] 44)).cell? ⟨w1.heap.size, 4, none⟩ = some (.int .i64 f.f4) := (cell_of_heap BFa.out 4).trans rfl; have fa5 : (w1.alloc (.cells #[.string f.f0, .int .i64 f.f1, .int .i64 f.f2, .int .i64 f.f3, .int .i64 f.f4, .int .i64 f.f5, .int .i64 f.f6] 44)).cell? ⟨w1.heap.size, 5, none⟩ = some (.int .i64 f.f5) := (cell_of_heap BFa.out 5).trans rfl; have fa6 : (w1.alloc (.cells #[.string f.f0, .int .i64 f.f1, .int .i64 f.f2, .int .i64 f.f3, .int .i64 f.f4, .int .i64 f.f5, .int .i64 f.f6] 44)).cell? ⟨w1.heap.size, 6, none⟩ = some (.int .i64 f.f6) := (cell_of_heap BFa.out 6).trans rfl; clear hs1) 
      | (go_at_call 34; have htok := T1; have hN := number_calls C1.out (by omega) f.f3 x.f1 x hx (fun h => absurd h NK.out.1) (fun h => absurd h NK.out.2.1); rw [Q1.out] at hN; refine hN.mono ?_; clear T1 htok hN; rintro e2 w2 ⟨rfl, ⟨vj1, hc2⟩, hk2⟩; have C2 := Aside0.mk hc2; have K1 := Aside0.mk hk2; have BXb := Aside0.mk (hk2.same _ _ 39 (by decide) (by decide) (by decide) BXa.out); have BFb := Aside0.mk (hk2.same _ _ 44 (by decide) (by decide) (by decide) BFa.out); have xb0 : (w2).cell? ⟨w.heap.size, 0, none⟩ = some (.string x.f0) := (cell_of_heap BXb.out 0).trans rfl; have xb1 : (w2).cell? ⟨w.heap.size, 1, none⟩ = some (.int .i64 x.f1) := (cell_of_heap BXb.out 1).trans rfl; have xb2 : (w2).cell? ⟨w.heap.size, 2, none⟩ = some (.int .i64 x.f2) := (cell_of_heap BXb.out 2).trans rfl; have xb3 : (w2).cell? ⟨w.heap.size, 3, none⟩ = some (.int .i64 x.f3) := (cell_of_heap BXb.out 3).trans rfl; have xb4 : (w2).cell? ⟨w.heap.size, 4, none⟩ = some (.string x.f4) := (cell_of_heap BXb.out 4).trans rfl; have fb1 : (w2).cell? ⟨w1.heap.size, 1, none⟩ = some (.int .i64 f.f1) := (cell_of_heap BFb.out 1).trans rfl; have fb2 : (w2).cell? ⟨w1.heap.size, 2, none⟩ = some (.int .i64 f.f2) := (cell_of_heap BFb.out 2).trans rfl; have fb3 : (w2).cell? ⟨w1.heap.size, 3, none⟩ = some (.int .i64 f.f3) := (cell_of_heap BFb.out 3).trans rfl; have fb4 : (w2).cell? ⟨w1.heap.size, 4, none⟩ = some (.int .i64 f.f4) := (cell_of_heap BFb.out 4).trans rfl; have fb5 : (w2).cell? ⟨w1.heap.size, 5, none⟩ = some (.int .i64 f.f5) := (cell_of_heap BFb.out 5).trans rfl; have fb6 : (w2).cell? ⟨w1.heap.size, 6, none⟩ = some (.int .i64 f.f6) := (cell_of_heap BFb.out 6).trans rfl; clear hc2 hk2) 
      | (go_at_call 34; have htok := T2; have hN := number_calls C2.out (by have := numJ_len f.f3 x.f1 jm; omega) f.f4 x.f2 x hx (fun h => absurd h NK.out.2.2.1) (fun h => absurd h NK.out.2.2.2.1); rw [Q2.out] at hN; refine hN.mono ?_; clear T2 htok hN; rintro e2 w3 ⟨rfl, ⟨vj2, hc2⟩, hk2⟩; have C3 := Aside0.mk hc2; have K2 := Aside0.mk hk2; have BXc := Aside0.mk (hk2.same _ _ 39 (by decide) (by decide) (by decide) BXb.out); have BFc := Aside0.mk (hk2.same _ _ 44 (by decide) (by decide) (by decide) BFb.out); have xc0 : (w3).cell? ⟨w.heap.size, 0, none⟩ = some (.string x.f0) := (cell_of_heap BXc.out 0).trans rfl; have xc1 : (w3).cell? ⟨w.heap.size, 1, none⟩ = some (.int .i64 x.f1) := (cell_of_heap BXc.out 1).trans rfl; have xc2 : (w3).cell? ⟨w.heap.size, 2, none⟩ = some (.int .i64 x.f2) := (cell_of_heap BXc.out 2).trans rfl; have xc3 : (w3).cell? ⟨w.heap.size, 3, none⟩ = some (.int .i64 x.f3) := (cell_of_heap BXc.out 3).trans rfl; have xc4 : (w3).cell? ⟨w.heap.size, 4, none⟩ = some (.string x.f4) := (cell_of_heap BXc.out 4).trans rfl; have fc1 : (w3).cell? ⟨w1.heap.size, 1, none⟩ = some (.int .i64 f.f1) := (cell_of_heap BFc.out 1).trans rfl; have fc2 : (w3).cell? ⟨w1.heap.size, 2, none⟩ = some (.int .i64 f.f2) := (cell_of_heap BFc.out 2).trans rfl; have fc3 : (w3).cell? ⟨w1.heap.size, 3, none⟩ = some (.int .i64 f.f3) := (cell_of_heap BFc.out 3).trans rfl; have fc4 : (w3).cell? ⟨w1.heap.size, 4, none⟩ = some (.int .i64 f.f4) := (cell_of_heap BFc.out 4).trans rfl; have fc5 : (w3).cell? ⟨w1.heap.size, 5, none⟩ = some (.int .i64 f.f5) := (cell_of_heap BFc.out 5).trans rfl; have fc6 : (w3).cell? ⟨w1.heap.size, 6, none⟩ = some (.int .i64 f.f6) := (cell_of_heap BFc.out 6).trans rfl; clear hc2 hk2) 
      | (go_at_call 34; have htok := T3; have hN := number_calls C3.out (by have := numJ_len f.f3 x.f1 jm; have := numJ_len f.f4 x.f2 (numJ f.f3 x.f1 jm); omega) f.f5 x.f3 x hx P3.out P6.out; rw [Q3.out] at hN; refine hN.mono ?_; clear T3 htok hN; rintro e2 w4 ⟨rfl, ⟨vj3, hc2⟩, hk2⟩; have C4 := Aside0.mk hc2; have K3 := Aside0.mk hk2; have BXd := Aside0.mk (hk2.same _ _ 39 (by decide) (by decide) (by decide) BXc.out); have BFd := Aside0.mk (hk2.same _ _ 44 (by decide) (by decide) (by decide) BFc.out); have xd0 : (w4).cell? ⟨w.heap.size, 0, none⟩ = some (.string x.f0) := (cell_of_heap BXd.out 0).trans rfl; have xd1 : (w4).cell? ⟨w.heap.size, 1, none⟩ = some (.int .i64 x.f1) := (cell_of_heap BXd.out 1).trans rfl; have xd2 : (w4).cell? ⟨w.heap.size, 2, none⟩ = some (.int .i64 x.f2) := (cell_of_heap BXd.out 2).trans rfl; have xd3 : (w4).cell? ⟨w.heap.size, 3, none⟩ = some (.int .i64 x.f3) := (cell_of_heap BXd.out 3).trans rfl; have xd4 : (w4).cell? ⟨w.heap.size, 4, none⟩ = some (.string x.f4) := (cell_of_heap BXd.out 4).trans rfl; have fd1 : (w4).cell? ⟨w1.heap.size, 1, none⟩ = some (.int .i64 f.f1) := (cell_of_heap BFd.out 1).trans rfl; have fd2 : (w4).cell? ⟨w1.heap.size, 2, none⟩ = some (.int .i64 f.f2) := (cell_of_heap BFd.out 2).trans rfl; have fd3 : (w4).cell? ⟨w1.heap.size, 3, none⟩ = some (.int .i64 f.f3) := (cell_of_heap BFd.out 3).trans rfl; have fd4 : (w4).cell? ⟨w1.heap.size, 4, none⟩ = some (.int .i64 f.f4) := (cell_of_heap BFd.out 4).trans rfl; have fd5 : (w4).cell? ⟨w1.heap.size, 5, none⟩ = some (.int .i64 f.f5) := (cell_of_heap BFd.out 5).trans rfl; have fd6 : (w4).cell? ⟨w1.heap.size, 6, none⟩ = some (.int .i64 f.f6) := (cell_of_heap BFd.out 6).trans rfl; clear hc2 hk2) 
      | (go_at_call 35; have hT := texts_calls f.f6 x.f4 hx w4; rw [Q4.out] at hT; refine hT.mono ?_; clear hT; rintro e5 w5 ⟨rfl, hs5⟩; have S5 := Aside0.mk hs5; have C5 := Aside0.mk (C4.out.go hs5); have BXe := Aside0.mk (Cd.blk hs5.b BXd.out); have BFe := Aside0.mk (Cd.blk hs5.b BFd.out); have xe0 : (w5).cell? ⟨w.heap.size, 0, none⟩ = some (.string x.f0) := (cell_of_heap BXe.out 0).trans rfl; have xe1 : (w5).cell? ⟨w.heap.size, 1, none⟩ = some (.int .i64 x.f1) := (cell_of_heap BXe.out 1).trans rfl; have xe2 : (w5).cell? ⟨w.heap.size, 2, none⟩ = some (.int .i64 x.f2) := (cell_of_heap BXe.out 2).trans rfl; have xe3 : (w5).cell? ⟨w.heap.size, 3, none⟩ = some (.int .i64 x.f3) := (cell_of_heap BXe.out 3).trans rfl; have xe4 : (w5).cell? ⟨w.heap.size, 4, none⟩ = some (.string x.f4) := (cell_of_heap BXe.out 4).trans rfl; have fe1 : (w5).cell? ⟨w1.heap.size, 1, none⟩ = some (.int .i64 f.f1) := (cell_of_heap BFe.out 1).trans rfl; have fe2 : (w5).cell? ⟨w1.heap.size, 2, none⟩ = some (.int .i64 f.f2) := (cell_of_heap BFe.out 2).trans rfl; have fe3 : (w5).cell? ⟨w1.heap.size, 3, none⟩ = some (.int .i64 f.f3) := (cell_of_heap BFe.out 3).trans rfl; have fe4 : (w5).cell? ⟨w1.heap.size, 4, none⟩ = some (.int .i64 f.f4) := (cell_of_heap BFe.out 4).trans rfl; have fe5 : (w5).cell? ⟨w1.heap.size, 5, none⟩ = some (.int .i64 f.f5) := (cell_of_heap BFe.out 5).trans rfl; have fe6 : (w5).cell? ⟨w1.heap.size, 6, none⟩ = some (.int .i64 f.f6) := (cell_of_heap BFe.out 6).trans rfl; have c5 := C5.out.c; clear hs5))
  go_region
  all_goals go_wp2_with fail
  all_goals exact bodyPost_ret (v := .tuple #[.int .i64 (f.f1), .int .i64 (f.f2), .bool (true)]) (by simp [results, Try.results23, go_sem]) rfl ⟨rfl, ⟨_, _, by omega, C5.out.go (Since.refl _).drew⟩, (((((KeptT.since (S0.out.trans (S1.out.alloc (.cells #[.string f.f0, .int .i64 f.f1, .int .i64 f.f2, .int .i64 f.f3, .int .i64 f.f4, .int .i64 f.f5, .int .i64 f.f6] 44)))).trans K1.out).trans K2.out).trans K3.out).trans (KeptT.since S5.out)).trans (KeptT.since (Since.refl _).drew)⟩

set_option maxHeartbeats 4000000 in
set_option maxRecDepth 100000 in
theorem instr_has (h : Ck w0 w bw bm A0 c0 ws rg A2 n2 c2 n D ve vj ev jm) (hj : jm.length ≤ 50000) (hn : n ≤ 50000) (x : S39) (hx : x.f4.size ≤ 9223372036854775800) (q0 : 0 ≤ plF x.f0) (q1 : numB ws rg D (fmF x.f0).f3 x.f1 x = true) (q2 : numB ws rg D (fmF x.f0).f4 x.f2 x = true) (q3 : numB ws rg D (fmF x.f0).f5 x.f3 x = true) (q4 : textB (fmF x.f0).f6 x.f4 = true) (o_con : (x.f0.toList == [99, 111, 110]) = false) (o_open : (x.f0.toList == [111, 112, 101, 110]) = false) (o_has : (x.f0.toList == [104, 97, 115]) = true) (o_not : (x.f0.toList == [110, 111, 116]) = false) (o_put : (x.f0.toList == [112, 117, 116]) = false) (o_swap : (x.f0.toList == [115, 119, 97, 112]) = false) (o_merge : (x.f0.toList == [109, 101, 114, 103, 101]) = false) :
    Calls Try.prog 23 #[.pointer (some ⟨bw, 0, none⟩), agI x] w (InsYes w0 w bw bm A0 c0 ws rg A2 n2 c2 n D ve ev (insJ x jm) (ws.getD x.f1.toNat 0) ((fmF x.f0).f2) (true)) := by
  obtain ⟨V, hV⟩ : ∃ V, V = w.alloc (.cells #[.string x.f0, .int .i64 x.f1, .int .i64 x.f2, .int .i64 x.f3, .string x.f4] 39) := ⟨_, rfl⟩
  have S0 := Aside0.mk (show Since w V by rw [hV]; exact (Since.refl w).alloc _)
  have HV := Aside0.mk hV
  have HB := Aside0.mk (show V.heap[w.heap.size]? = some (.cells #[.string x.f0, .int .i64 x.f1, .int .i64 x.f2, .int .i64 x.f3, .string x.f4] 39 (0, 0)) by rw [hV]; exact heap_alloc_new w _)
  have HC := Aside0.mk (h.go S0.out)
  have hok := forms_ok x.f0
  have hop := fun h => fm_op (op := x.f0) h
  have hFind := fun w => find_calls w x.f0
  obtain ⟨f, hf⟩ : ∃ f, f = fmF x.f0 := ⟨_, rfl⟩
  obtain ⟨pl, hpl⟩ : ∃ p, p = plF x.f0 := ⟨_, rfl⟩
  rw [← hf] at hok hop hFind
  rw [← hpl] at hop hFind
  have HFind := Aside0.mk (show ∀ w, Calls Try.prog 14 #[.string x.f0] w (fun e w' => e = .returned (.tuple #[.agg #[.string f.f0, .int .i64 f.f1, .int .i64 f.f2, .int .i64 f.f3, .int .i64 f.f4, .int .i64 f.f5, .int .i64 f.f6], .int .i64 pl]) ∧ Since w w') from hFind)
  have HOK := Aside0.mk hok
  have HOP := Aside0.mk hop
  have HF := Aside0.mk (And.intro hf hpl)
  simp only [formOk, Bool.and_eq_true, Bool.or_eq_true, decide_eq_true_eq] at hok
  obtain ⟨⟨⟨⟨⟨⟨⟨⟨⟨⟨⟨e1, e2⟩, e3⟩, e4⟩, e5⟩, e6⟩, e7⟩, e8⟩, e9⟩, e10⟩, e11⟩, e12⟩ := hok
  have NK := Aside0.mk (And.intro e1 (And.intro e2 (And.intro e3 (And.intro e4 e5))))
  have NE := Aside0.mk (And.intro e6 (And.intro e7 (And.intro e8 (And.intro e9 (And.intro e10 (And.intro e11 e12))))))
  rw [← hf] at q1 q2 q3 q4
  rw [← hpl] at q0
  have q0' : decide (pl < 0) = false := decide_eq_false (by omega)
  have hJ : insJ x jm = numJ f.f5 x.f3 (numJ f.f4 x.f2 (numJ f.f3 x.f1 jm)) := by rw [hf]; rfl
  rw [hJ]
  try rw [← hf]
  clear hJ
  have T1 := True.intro
  have T2 := True.intro
  have T3 := True.intro
  have Q1 := Aside0.mk q1
  have Q2 := Aside0.mk q2
  have Q3 := Aside0.mk q3
  have Q4 := Aside0.mk q4
  have Q0 := Aside0.mk q0
  have P3 := Aside0.mk (show f.f5 = 3 → isOp x.f0 [109, 97, 116, 99, 104] = false → 0 ≤ x.f1 ∧ x.f1 < 64 from fun h5 hm => by
    rcases NK.out.2.2.2.2 with (h | h) | h
    · exact absurd h5 h
    · rw [HOP.out (by omega)] at h
      exact absurd (show isOp x.f0 [109, 97, 116, 99, 104] = true from h) (by rw [hm]; decide)
    · have h3 : f.f3 = 5 := eq_of_beq h
      have hq := Q1.out
      rw [h3] at hq
      unfold numB at hq
      simpa using hq)
  have P6 := Aside0.mk (show f.f5 = 6 → 0 ≤ x.f2 ∧ x.f2 < ws.length from fun h5 => by
    rcases NE.out.1 with h | h
    · exact absurd h5 h
    · have h3 : f.f4 = 4 := eq_of_beq h
      have hq := Q2.out
      rw [h3] at hq
      unfold numB at hq
      simpa using hq)
  clear hV hf hpl h hFind hop e1 e2 e3 e4 e5 e6 e7 e8 e9 e10 e11 e12 q1 q2 q3 q4
  show Calls Try.prog 23 #[.pointer (some ⟨bw, 0, none⟩), .agg #[.string x.f0, .int .i64 x.f1, .int .i64 x.f2, .int .i64 x.f3, .string x.f4]] w _
  have k4 : f.f3 = 4 := by
    rcases NE.out.2.2.2.2.1 with h | h
    · rw [HOP.out (by omega)] at h
      simp [o_has] at h
    · exact eq_of_beq h
  have ha : 0 ≤ x.f1 ∧ x.f1 < ws.length := by
    have hq := Q1.out
    rw [k4] at hq
    unfold numB at hq
    simpa using hq
  obtain ⟨m, hm⟩ : ∃ m, m = ws.length := ⟨_, rfl⟩
  have HM := Aside0.mk hm
  have HWS := Aside0.mk (show ∀ w', Since w0 w' → Kd.C (Kd.int .i64) w' A0 m ws from fun w' hs => by rw [hm]; exact Kd.C_below HC.out.W hs.b)
  clear hm
  rw [← HM.out] at ha
  obtain ⟨ha1, ha2⟩ := ha
  obtain ⟨r, hr⟩ : ∃ r, r = ws.getD x.f1.toNat 0 := ⟨_, rfl⟩
  rw [← hr]
  have HR := Aside0.mk hr
  clear hr k4
  go_enter Try.func23, Try.ntmps23
  go_wp2_with (first
      | (go_at_call 14; rw [← HV.out]; refine (HFind.out V).mono ?_; rintro e1 w1 ⟨rfl, hs1⟩; have S1 := Aside0.mk hs1; have BXa := Aside0.mk (blk_alloc (Cd.blk hs1.b HB.out) (.cells #[.string f.f0, .int .i64 f.f1, .int .i64 f.f2, .int .i64 f.f3, .int .i64 f.f4, .int .i64 f.f5, .int .i64 f.f6] 44)); have BFa := Aside0.mk (heap_alloc_new w1 (.cells #[.string f.f0, .int .i64 f.f1, .int .i64 f.f2, .int .i64 f.f3, .int .i64 f.f4, .int .i64 f.f5, .int .i64 f.f6] 44)); have C1 := Aside0.mk (HC.out.go (hs1.alloc (.cells #[.string f.f0, .int .i64 f.f1, .int .i64 f.f2, .int .i64 f.f3, .int .i64 f.f4, .int .i64 f.f5, .int .i64 f.f6] 44))); have xa0 : (w1.alloc (.cells #[.string f.f0, .int .i64 f.f1, .int .i64 f.f2, .int .i64 f.f3, .int .i64 f.f4, .int .i64 f.f5, .int .i64 f.f6] 44)).cell? ⟨w.heap.size, 0, none⟩ = some (.string x.f0) := (cell_of_heap BXa.out 0).trans rfl; have xa1 : (w1.alloc (.cells #[.string f.f0, .int .i64 f.f1, .int .i64 f.f2, .int .i64 f.f3, .int .i64 f.f4, .int .i64 f.f5, .int .i64 f.f6] 44)).cell? ⟨w.heap.size, 1, none⟩ = some (.int .i64 x.f1) := (cell_of_heap BXa.out 1).trans rfl; have xa2 : (w1.alloc (.cells #[.string f.f0, .int .i64 f.f1, .int .i64 f.f2, .int .i64 f.f3, .int .i64 f.f4, .int .i64 f.f5, .int .i64 f.f6] 44)).cell? ⟨w.heap.size, 2, none⟩ = some (.int .i64 x.f2) := (cell_of_heap BXa.out 2).trans rfl; have xa3 : (w1.alloc (.cells #[.string f.f0, .int .i64 f.f1, .int .i64 f.f2, .int .i64 f.f3, .int .i64 f.f4, .int .i64 f.f5, .int .i64 f.f6] 44)).cell? ⟨w.heap.size, 3, none⟩ = some (.int .i64 x.f3) := (cell_of_heap BXa.out 3).trans rfl; have xa4 : (w1.alloc (.cells #[.string f.f0, .int .i64 f.f1, .int .i64 f.f2, .int .i64 f.f3, .int .i64 f.f4, .int .i64 f.f5, .int .i64 f.f6] 44)).cell? ⟨w.heap.size, 4, none⟩ = some (.string x.f4) := (cell_of_heap BXa.out 4).trans rfl; have fa1 : (w1.alloc (.cells #[.string f.f0, .int .i64 f.f1, .int .i64 f.f2, .int .i64 f.f3, .int .i64 f.f4, .int .i64 f.f5, .int .i64 f.f6] 44)).cell? ⟨w1.heap.size, 1, none⟩ = some (.int .i64 f.f1) := (cell_of_heap BFa.out 1).trans rfl; have fa2 : (w1.alloc (.cells #[.string f.f0, .int .i64 f.f1, .int .i64 f.f2, .int .i64 f.f3, .int .i64 f.f4, .int .i64 f.f5, .int .i64 f.f6] 44)).cell? ⟨w1.heap.size, 2, none⟩ = some (.int .i64 f.f2) := (cell_of_heap BFa.out 2).trans rfl; have fa3 : (w1.alloc (.cells #[.string f.f0, .int .i64 f.f1, .int .i64 f.f2, .int .i64 f.f3, .int .i64 f.f4, .int .i64 f.f5, .int .i64 f.f6] 44)).cell? ⟨w1.heap.size, 3, none⟩ = some (.int .i64 f.f3) := (cell_of_heap BFa.out 3).trans rfl; have fa4 : (w1.alloc (.cells #[.string f.f0, .int .i64 f.f1, .int .i64 f.f2, .int .i64 f.f3, .int .i64 f.f4, .int .i64 f.f5, .int .i64 f.f6] 44)).cell? ⟨w1.heap.size, 4, none⟩ = some (.int .i64 f.f4) := (cell_of_heap BFa.out 4).trans rfl; have fa5 : (w1.alloc (.cells #[.string f.f0, .int .i64 f.f1, .int .i64 f.f2, .int .i64 f.f3, .int .i64 f.f4, .int .i64 f.f5, .int .i64 f.f6] 44)).cell? ⟨w1.heap.size, 5, none⟩ = some (.int .i64 f.f5) := (cell_of_heap BFa.out 5).trans rfl; have fa6 : (w1.alloc (.cells #[.string f.f0, .int .i64 f.f1, .int .i64 f.f2, .int .i64 f.f3, .int .i64 f.f4, .int .i64 f.f5, .int .i64 f.f6] 44)).cell? ⟨w1.heap.size, 6, none⟩ = some (.int .i64 f.f6) := (cell_of_heap BFa.out 6).trans rfl; clear hs1) 
      | (go_at_call 34; have htok := T1; have hN := number_calls C1.out (by omega) f.f3 x.f1 x hx (fun h => absurd h NK.out.1) (fun h => absurd h NK.out.2.1); rw [Q1.out] at hN; refine hN.mono ?_; clear T1 htok hN; rintro e2 w2 ⟨rfl, ⟨vj1, hc2⟩, hk2⟩; have C2 := Aside0.mk hc2; have K1 := Aside0.mk hk2; have BXb := Aside0.mk (hk2.same _ _ 39 (by decide) (by decide) (by decide) BXa.out); have BFb := Aside0.mk (hk2.same _ _ 44 (by decide) (by decide) (by decide) BFa.out); have xb0 : (w2).cell? ⟨w.heap.size, 0, none⟩ = some (.string x.f0) := (cell_of_heap BXb.out 0).trans rfl; have xb1 : (w2).cell? ⟨w.heap.size, 1, none⟩ = some (.int .i64 x.f1) := (cell_of_heap BXb.out 1).trans rfl; have xb2 : (w2).cell? ⟨w.heap.size, 2, none⟩ = some (.int .i64 x.f2) := (cell_of_heap BXb.out 2).trans rfl; have xb3 : (w2).cell? ⟨w.heap.size, 3, none⟩ = some (.int .i64 x.f3) := (cell_of_heap BXb.out 3).trans rfl; have xb4 : (w2).cell? ⟨w.heap.size, 4, none⟩ = some (.string x.f4) := (cell_of_heap BXb.out 4).trans rfl; have fb1 : (w2).cell? ⟨w1.heap.size, 1, none⟩ = some (.int .i64 f.f1) := (cell_of_heap BFb.out 1).trans rfl; have fb2 : (w2).cell? ⟨w1.heap.size, 2, none⟩ = some (.int .i64 f.f2) := (cell_of_heap BFb.out 2).trans rfl; have fb3 : (w2).cell? ⟨w1.heap.size, 3, none⟩ = some (.int .i64 f.f3) := (cell_of_heap BFb.out 3).trans rfl; have fb4 : (w2).cell? ⟨w1.heap.size, 4, none⟩ = some (.int .i64 f.f4) := (cell_of_heap BFb.out 4).trans rfl; have fb5 : (w2).cell? ⟨w1.heap.size, 5, none⟩ = some (.int .i64 f.f5) := (cell_of_heap BFb.out 5).trans rfl; have fb6 : (w2).cell? ⟨w1.heap.size, 6, none⟩ = some (.int .i64 f.f6) := (cell_of_heap BFb.out 6).trans rfl; clear hc2 hk2) 
      | (go_at_call 34; have htok := T2; have hN := number_calls C2.out (by have := numJ_len f.f3 x.f1 jm; omega) f.f4 x.f2 x hx (fun h => absurd h NK.out.2.2.1) (fun h => absurd h NK.out.2.2.2.1); rw [Q2.out] at hN; refine hN.mono ?_; clear T2 htok hN; rintro e2 w3 ⟨rfl, ⟨vj2, hc2⟩, hk2⟩; have C3 := Aside0.mk hc2; have K2 := Aside0.mk hk2; have BXc := Aside0.mk (hk2.same _ _ 39 (by decide) (by decide) (by decide) BXb.out); have BFc := Aside0.mk (hk2.same _ _ 44 (by decide) (by decide) (by decide) BFb.out); have xc0 : (w3).cell? ⟨w.heap.size, 0, none⟩ = some (.string x.f0) := (cell_of_heap BXc.out 0).trans rfl; have xc1 : (w3).cell? ⟨w.heap.size, 1, none⟩ = some (.int .i64 x.f1) := (cell_of_heap BXc.out 1).trans rfl; have xc2 : (w3).cell? ⟨w.heap.size, 2, none⟩ = some (.int .i64 x.f2) := (cell_of_heap BXc.out 2).trans rfl; have xc3 : (w3).cell? ⟨w.heap.size, 3, none⟩ = some (.int .i64 x.f3) := (cell_of_heap BXc.out 3).trans rfl; have xc4 : (w3).cell? ⟨w.heap.size, 4, none⟩ = some (.string x.f4) := (cell_of_heap BXc.out 4).trans rfl; have fc1 : (w3).cell? ⟨w1.heap.size, 1, none⟩ = some (.int .i64 f.f1) := (cell_of_heap BFc.out 1).trans rfl; have fc2 : (w3).cell? ⟨w1.heap.size, 2, none⟩ = some (.int .i64 f.f2) := (cell_of_heap BFc.out 2).trans rfl; have fc3 : (w3).cell? ⟨w1.heap.size, 3, none⟩ = some (.int .i64 f.f3) := (cell_of_heap BFc.out 3).trans rfl; have fc4 : (w3).cell? ⟨w1.heap.size, 4, none⟩ = some (.int .i64 f.f4) := (cell_of_heap BFc.out 4).trans rfl; have fc5 : (w3).cell? ⟨w1.heap.size, 5, none⟩ = some (.int .i64 f.f5) := (cell_of_heap BFc.out 5).trans rfl; have fc6 : (w3).cell? ⟨w1.heap.size, 6, none⟩ = some (.int .i64 f.f6) := (cell_of_heap BFc.out 6).trans rfl; clear hc2 hk2) 
      | (go_at_call 34; have htok := T3; have hN := number_calls C3.out (by have := numJ_len f.f3 x.f1 jm; have := numJ_len f.f4 x.f2 (numJ f.f3 x.f1 jm); omega) f.f5 x.f3 x hx P3.out P6.out; rw [Q3.out] at hN; refine hN.mono ?_; clear T3 htok hN; rintro e2 w4 ⟨rfl, ⟨vj3, hc2⟩, hk2⟩; have C4 := Aside0.mk hc2; have K3 := Aside0.mk hk2; have BXd := Aside0.mk (hk2.same _ _ 39 (by decide) (by decide) (by decide) BXc.out); have BFd := Aside0.mk (hk2.same _ _ 44 (by decide) (by decide) (by decide) BFc.out); have xd0 : (w4).cell? ⟨w.heap.size, 0, none⟩ = some (.string x.f0) := (cell_of_heap BXd.out 0).trans rfl; have xd1 : (w4).cell? ⟨w.heap.size, 1, none⟩ = some (.int .i64 x.f1) := (cell_of_heap BXd.out 1).trans rfl; have xd2 : (w4).cell? ⟨w.heap.size, 2, none⟩ = some (.int .i64 x.f2) := (cell_of_heap BXd.out 2).trans rfl; have xd3 : (w4).cell? ⟨w.heap.size, 3, none⟩ = some (.int .i64 x.f3) := (cell_of_heap BXd.out 3).trans rfl; have xd4 : (w4).cell? ⟨w.heap.size, 4, none⟩ = some (.string x.f4) := (cell_of_heap BXd.out 4).trans rfl; have fd1 : (w4).cell? ⟨w1.heap.size, 1, none⟩ = some (.int .i64 f.f1) := (cell_of_heap BFd.out 1).trans rfl; have fd2 : (w4).cell? ⟨w1.heap.size, 2, none⟩ = some (.int .i64 f.f2) := (cell_of_heap BFd.out 2).trans rfl; have fd3 : (w4).cell? ⟨w1.heap.size, 3, none⟩ = some (.int .i64 f.f3) := (cell_of_heap BFd.out 3).trans rfl; have fd4 : (w4).cell? ⟨w1.heap.size, 4, none⟩ = some (.int .i64 f.f4) := (cell_of_heap BFd.out 4).trans rfl; have fd5 : (w4).cell? ⟨w1.heap.size, 5, none⟩ = some (.int .i64 f.f5) := (cell_of_heap BFd.out 5).trans rfl; have fd6 : (w4).cell? ⟨w1.heap.size, 6, none⟩ = some (.int .i64 f.f6) := (cell_of_heap BFd.out 6).trans rfl; clear hc2 hk2) 
      | (go_at_call 35; have hT := texts_calls f.f6 x.f4 hx w4; rw [Q4.out] at hT; refine hT.mono ?_; clear hT; rintro e5 w5 ⟨rfl, hs5⟩; have S5 := Aside0.mk hs5; have C5 := Aside0.mk (C4.out.go hs5); have BXe := Aside0.mk (Cd.blk hs5.b BXd.out); have BFe := Aside0.mk (Cd.blk hs5.b BFd.out); have xe0 : (w5).cell? ⟨w.heap.size, 0, none⟩ = some (.string x.f0) := (cell_of_heap BXe.out 0).trans rfl; have xe1 : (w5).cell? ⟨w.heap.size, 1, none⟩ = some (.int .i64 x.f1) := (cell_of_heap BXe.out 1).trans rfl; have xe2 : (w5).cell? ⟨w.heap.size, 2, none⟩ = some (.int .i64 x.f2) := (cell_of_heap BXe.out 2).trans rfl; have xe3 : (w5).cell? ⟨w.heap.size, 3, none⟩ = some (.int .i64 x.f3) := (cell_of_heap BXe.out 3).trans rfl; have xe4 : (w5).cell? ⟨w.heap.size, 4, none⟩ = some (.string x.f4) := (cell_of_heap BXe.out 4).trans rfl; have fe1 : (w5).cell? ⟨w1.heap.size, 1, none⟩ = some (.int .i64 f.f1) := (cell_of_heap BFe.out 1).trans rfl; have fe2 : (w5).cell? ⟨w1.heap.size, 2, none⟩ = some (.int .i64 f.f2) := (cell_of_heap BFe.out 2).trans rfl; have fe3 : (w5).cell? ⟨w1.heap.size, 3, none⟩ = some (.int .i64 f.f3) := (cell_of_heap BFe.out 3).trans rfl; have fe4 : (w5).cell? ⟨w1.heap.size, 4, none⟩ = some (.int .i64 f.f4) := (cell_of_heap BFe.out 4).trans rfl; have fe5 : (w5).cell? ⟨w1.heap.size, 5, none⟩ = some (.int .i64 f.f5) := (cell_of_heap BFe.out 5).trans rfl; have fe6 : (w5).cell? ⟨w1.heap.size, 6, none⟩ = some (.int .i64 f.f6) := (cell_of_heap BFe.out 6).trans rfl; have c5 := C5.out.c; clear hs5))
  obtain ⟨ad, cs, rfl, hl, hK, hcl⟩ := Kd.C_get (HWS.out _ C5.out.since) (0 : Int) x.f1 (by omega) (by omega)
  rw [← HR.out] at hK
  have hce : cs = [.int .i64 r] := hK
  subst hce
  have hcell : w5.cell? (ad.add x.f1.toNat) = some (.int .i64 r) := by simpa [Kd.int, Kd.scalar] using hcl 0 _ rfl
  have c50 := C5.out.c.1
  rw [← HM.out] at c50
  clear hK hcl hl c5
  go_region
  all_goals go_wp2_with fail
  all_goals go_region
  all_goals go_wp2_with fail
  all_goals exact bodyPost_ret (v := .tuple #[.int .i64 (r), .int .i64 (f.f2), .bool (true)]) (by simp [results, Try.results23, go_sem]) rfl ⟨rfl, ⟨_, _, by omega, C5.out.go (Since.refl _).drew.drew⟩, (((((KeptT.since (S0.out.trans (S1.out.alloc (.cells #[.string f.f0, .int .i64 f.f1, .int .i64 f.f2, .int .i64 f.f3, .int .i64 f.f4, .int .i64 f.f5, .int .i64 f.f6] 44)))).trans K1.out).trans K2.out).trans K3.out).trans (KeptT.since S5.out)).trans (KeptT.since (Since.refl _).drew.drew)⟩

set_option maxHeartbeats 4000000 in
set_option maxRecDepth 100000 in
theorem instr_not (h : Ck w0 w bw bm A0 c0 ws rg A2 n2 c2 n D ve vj ev jm) (hj : jm.length ≤ 50000) (hn : n ≤ 50000) (x : S39) (hx : x.f4.size ≤ 9223372036854775800) (q0 : 0 ≤ plF x.f0) (q1 : numB ws rg D (fmF x.f0).f3 x.f1 x = true) (q2 : numB ws rg D (fmF x.f0).f4 x.f2 x = true) (q3 : numB ws rg D (fmF x.f0).f5 x.f3 x = true) (q4 : textB (fmF x.f0).f6 x.f4 = true) (o_con : (x.f0.toList == [99, 111, 110]) = false) (o_open : (x.f0.toList == [111, 112, 101, 110]) = false) (o_has : (x.f0.toList == [104, 97, 115]) = false) (o_not : (x.f0.toList == [110, 111, 116]) = true) (o_put : (x.f0.toList == [112, 117, 116]) = false) (o_swap : (x.f0.toList == [115, 119, 97, 112]) = false) (o_merge : (x.f0.toList == [109, 101, 114, 103, 101]) = false) :
    Calls Try.prog 23 #[.pointer (some ⟨bw, 0, none⟩), agI x] w (InsYes w0 w bw bm A0 c0 ws rg A2 n2 c2 n D ve ev (insJ x jm) (ws.getD x.f1.toNat 0) ((fmF x.f0).f2) (true)) := by
  obtain ⟨V, hV⟩ : ∃ V, V = w.alloc (.cells #[.string x.f0, .int .i64 x.f1, .int .i64 x.f2, .int .i64 x.f3, .string x.f4] 39) := ⟨_, rfl⟩
  have S0 := Aside0.mk (show Since w V by rw [hV]; exact (Since.refl w).alloc _)
  have HV := Aside0.mk hV
  have HB := Aside0.mk (show V.heap[w.heap.size]? = some (.cells #[.string x.f0, .int .i64 x.f1, .int .i64 x.f2, .int .i64 x.f3, .string x.f4] 39 (0, 0)) by rw [hV]; exact heap_alloc_new w _)
  have HC := Aside0.mk (h.go S0.out)
  have hok := forms_ok x.f0
  have hop := fun h => fm_op (op := x.f0) h
  have hFind := fun w => find_calls w x.f0
  obtain ⟨f, hf⟩ : ∃ f, f = fmF x.f0 := ⟨_, rfl⟩
  obtain ⟨pl, hpl⟩ : ∃ p, p = plF x.f0 := ⟨_, rfl⟩
  rw [← hf] at hok hop hFind
  rw [← hpl] at hop hFind
  have HFind := Aside0.mk (show ∀ w, Calls Try.prog 14 #[.string x.f0] w (fun e w' => e = .returned (.tuple #[.agg #[.string f.f0, .int .i64 f.f1, .int .i64 f.f2, .int .i64 f.f3, .int .i64 f.f4, .int .i64 f.f5, .int .i64 f.f6], .int .i64 pl]) ∧ Since w w') from hFind)
  have HOK := Aside0.mk hok
  have HOP := Aside0.mk hop
  have HF := Aside0.mk (And.intro hf hpl)
  simp only [formOk, Bool.and_eq_true, Bool.or_eq_true, decide_eq_true_eq] at hok
  obtain ⟨⟨⟨⟨⟨⟨⟨⟨⟨⟨⟨e1, e2⟩, e3⟩, e4⟩, e5⟩, e6⟩, e7⟩, e8⟩, e9⟩, e10⟩, e11⟩, e12⟩ := hok
  have NK := Aside0.mk (And.intro e1 (And.intro e2 (And.intro e3 (And.intro e4 e5))))
  have NE := Aside0.mk (And.intro e6 (And.intro e7 (And.intro e8 (And.intro e9 (And.intro e10 (And.intro e11 e12))))))
  rw [← hf] at q1 q2 q3 q4
  rw [← hpl] at q0
  have q0' : decide (pl < 0) = false := decide_eq_false (by omega)
  have hJ : insJ x jm = numJ f.f5 x.f3 (numJ f.f4 x.f2 (numJ f.f3 x.f1 jm)) := by rw [hf]; rfl
  rw [hJ]
  try rw [← hf]
  clear hJ
  have T1 := True.intro
  have T2 := True.intro
  have T3 := True.intro
  have Q1 := Aside0.mk q1
  have Q2 := Aside0.mk q2
  have Q3 := Aside0.mk q3
  have Q4 := Aside0.mk q4
  have Q0 := Aside0.mk q0
  have P3 := Aside0.mk (show f.f5 = 3 → isOp x.f0 [109, 97, 116, 99, 104] = false → 0 ≤ x.f1 ∧ x.f1 < 64 from fun h5 hm => by
    rcases NK.out.2.2.2.2 with (h | h) | h
    · exact absurd h5 h
    · rw [HOP.out (by omega)] at h
      exact absurd (show isOp x.f0 [109, 97, 116, 99, 104] = true from h) (by rw [hm]; decide)
    · have h3 : f.f3 = 5 := eq_of_beq h
      have hq := Q1.out
      rw [h3] at hq
      unfold numB at hq
      simpa using hq)
  have P6 := Aside0.mk (show f.f5 = 6 → 0 ≤ x.f2 ∧ x.f2 < ws.length from fun h5 => by
    rcases NE.out.1 with h | h
    · exact absurd h5 h
    · have h3 : f.f4 = 4 := eq_of_beq h
      have hq := Q2.out
      rw [h3] at hq
      unfold numB at hq
      simpa using hq)
  clear hV hf hpl h hFind hop e1 e2 e3 e4 e5 e6 e7 e8 e9 e10 e11 e12 q1 q2 q3 q4
  show Calls Try.prog 23 #[.pointer (some ⟨bw, 0, none⟩), .agg #[.string x.f0, .int .i64 x.f1, .int .i64 x.f2, .int .i64 x.f3, .string x.f4]] w _
  have k4 : f.f3 = 4 := by
    rcases NE.out.2.2.2.2.1 with h | h
    · rw [HOP.out (by omega)] at h
      simp [o_not] at h
    · exact eq_of_beq h
  have ha : 0 ≤ x.f1 ∧ x.f1 < ws.length := by
    have hq := Q1.out
    rw [k4] at hq
    unfold numB at hq
    simpa using hq
  obtain ⟨m, hm⟩ : ∃ m, m = ws.length := ⟨_, rfl⟩
  have HM := Aside0.mk hm
  have HWS := Aside0.mk (show ∀ w', Since w0 w' → Kd.C (Kd.int .i64) w' A0 m ws from fun w' hs => by rw [hm]; exact Kd.C_below HC.out.W hs.b)
  clear hm
  rw [← HM.out] at ha
  obtain ⟨ha1, ha2⟩ := ha
  obtain ⟨r, hr⟩ : ∃ r, r = ws.getD x.f1.toNat 0 := ⟨_, rfl⟩
  rw [← hr]
  have HR := Aside0.mk hr
  clear hr k4
  go_enter Try.func23, Try.ntmps23
  go_wp2_with (first
      | (go_at_call 14; rw [← HV.out]; refine (HFind.out V).mono ?_; rintro e1 w1 ⟨rfl, hs1⟩; have S1 := Aside0.mk hs1; have BXa := Aside0.mk (blk_alloc (Cd.blk hs1.b HB.out) (.cells #[.string f.f0, .int .i64 f.f1, .int .i64 f.f2, .int .i64 f.f3, .int .i64 f.f4, .int .i64 f.f5, .int .i64 f.f6] 44)); have BFa := Aside0.mk (heap_alloc_new w1 (.cells #[.string f.f0, .int .i64 f.f1, .int .i64 f.f2, .int .i64 f.f3, .int .i64 f.f4, .int .i64 f.f5, .int .i64 f.f6] 44)); have C1 := Aside0.mk (HC.out.go (hs1.alloc (.cells #[.string f.f0, .int .i64 f.f1, .int .i64 f.f2, .int .i64 f.f3, .int .i64 f.f4, .int .i64 f.f5, .int .i64 f.f6] 44))); have xa0 : (w1.alloc (.cells #[.string f.f0, .int .i64 f.f1, .int .i64 f.f2, .int .i64 f.f3, .int .i64 f.f4, .int .i64 f.f5, .int .i64 f.f6] 44)).cell? ⟨w.heap.size, 0, none⟩ = some (.string x.f0) := (cell_of_heap BXa.out 0).trans rfl; have xa1 : (w1.alloc (.cells #[.string f.f0, .int .i64 f.f1, .int .i64 f.f2, .int .i64 f.f3, .int .i64 f.f4, .int .i64 f.f5, .int .i64 f.f6] 44)).cell? ⟨w.heap.size, 1, none⟩ = some (.int .i64 x.f1) := (cell_of_heap BXa.out 1).trans rfl; have xa2 : (w1.alloc (.cells #[.string f.f0, .int .i64 f.f1, .int .i64 f.f2, .int .i64 f.f3, .int .i64 f.f4, .int .i64 f.f5, .int .i64 f.f6] 44)).cell? ⟨w.heap.size, 2, none⟩ = some (.int .i64 x.f2) := (cell_of_heap BXa.out 2).trans rfl; have xa3 : (w1.alloc (.cells #[.string f.f0, .int .i64 f.f1, .int .i64 f.f2, .int .i64 f.f3, .int .i64 f.f4, .int .i64 f.f5, .int .i64 f.f6] 44)).cell? ⟨w.heap.size, 3, none⟩ = some (.int .i64 x.f3) := (cell_of_heap BXa.out 3).trans rfl; have xa4 : (w1.alloc (.cells #[.string f.f0, .int .i64 f.f1, .int .i64 f.f2, .int .i64 f.f3, .int .i64 f.f4, .int .i64 f.f5, .int .i64 f.f6] 44)).cell? ⟨w.heap.size, 4, none⟩ = some (.string x.f4) := (cell_of_heap BXa.out 4).trans rfl; have fa1 : (w1.alloc (.cells #[.string f.f0, .int .i64 f.f1, .int .i64 f.f2, .int .i64 f.f3, .int .i64 f.f4, .int .i64 f.f5, .int .i64 f.f6] 44)).cell? ⟨w1.heap.size, 1, none⟩ = some (.int .i64 f.f1) := (cell_of_heap BFa.out 1).trans rfl; have fa2 : (w1.alloc (.cells #[.string f.f0, .int .i64 f.f1, .int .i64 f.f2, .int .i64 f.f3, .int .i64 f.f4, .int .i64 f.f5, .int .i64 f.f6] 44)).cell? ⟨w1.heap.size, 2, none⟩ = some (.int .i64 f.f2) := (cell_of_heap BFa.out 2).trans rfl; have fa3 : (w1.alloc (.cells #[.string f.f0, .int .i64 f.f1, .int .i64 f.f2, .int .i64 f.f3, .int .i64 f.f4, .int .i64 f.f5, .int .i64 f.f6] 44)).cell? ⟨w1.heap.size, 3, none⟩ = some (.int .i64 f.f3) := (cell_of_heap BFa.out 3).trans rfl; have fa4 : (w1.alloc (.cells #[.string f.f0, .int .i64 f.f1, .int .i64 f.f2, .int .i64 f.f3, .int .i64 f.f4, .int .i64 f.f5, .int .i64 f.f6] 44)).cell? ⟨w1.heap.size, 4, none⟩ = some (.int .i64 f.f4) := (cell_of_heap BFa.out 4).trans rfl; have fa5 : (w1.alloc (.cells #[.string f.f0, .int .i64 f.f1, .int .i64 f.f2, .int .i64 f.f3, .int .i64 f.f4, .int .i64 f.f5, .int .i64 f.f6] 44)).cell? ⟨w1.heap.size, 5, none⟩ = some (.int .i64 f.f5) := (cell_of_heap BFa.out 5).trans rfl; have fa6 : (w1.alloc (.cells #[.string f.f0, .int .i64 f.f1, .int .i64 f.f2, .int .i64 f.f3, .int .i64 f.f4, .int .i64 f.f5, .int .i64 f.f6] 44)).cell? ⟨w1.heap.size, 6, none⟩ = some (.int .i64 f.f6) := (cell_of_heap BFa.out 6).trans rfl; clear hs1) 
      | (go_at_call 34; have htok := T1; have hN := number_calls C1.out (by omega) f.f3 x.f1 x hx (fun h => absurd h NK.out.1) (fun h => absurd h NK.out.2.1); rw [Q1.out] at hN; refine hN.mono ?_; clear T1 htok hN; rintro e2 w2 ⟨rfl, ⟨vj1, hc2⟩, hk2⟩; have C2 := Aside0.mk hc2; have K1 := Aside0.mk hk2; have BXb := Aside0.mk (hk2.same _ _ 39 (by decide) (by decide) (by decide) BXa.out); have BFb := Aside0.mk (hk2.same _ _ 44 (by decide) (by decide) (by decide) BFa.out); have xb0 : (w2).cell? ⟨w.heap.size, 0, none⟩ = some (.string x.f0) := (cell_of_heap BXb.out 0).trans rfl; have xb1 : (w2).cell? ⟨w.heap.size, 1, none⟩ = some (.int .i64 x.f1) := (cell_of_heap BXb.out 1).trans rfl; have xb2 : (w2).cell? ⟨w.heap.size, 2, none⟩ = some (.int .i64 x.f2) := (cell_of_heap BXb.out 2).trans rfl; have xb3 : (w2).cell? ⟨w.heap.size, 3, none⟩ = some (.int .i64 x.f3) := (cell_of_heap BXb.out 3).trans rfl; have xb4 : (w2).cell? ⟨w.heap.size, 4, none⟩ = some (.string x.f4) := (cell_of_heap BXb.out 4).trans rfl; have fb1 : (w2).cell? ⟨w1.heap.size, 1, none⟩ = some (.int .i64 f.f1) := (cell_of_heap BFb.out 1).trans rfl; have fb2 : (w2).cell? ⟨w1.heap.size, 2, none⟩ = some (.int .i64 f.f2) := (cell_of_heap BFb.out 2).trans rfl; have fb3 : (w2).cell? ⟨w1.heap.size, 3, none⟩ = some (.int .i64 f.f3) := (cell_of_heap BFb.out 3).trans rfl; have fb4 : (w2).cell? ⟨w1.heap.size, 4, none⟩ = some (.int .i64 f.f4) := (cell_of_heap BFb.out 4).trans rfl; have fb5 : (w2).cell? ⟨w1.heap.size, 5, none⟩ = some (.int .i64 f.f5) := (cell_of_heap BFb.out 5).trans rfl; have fb6 : (w2).cell? ⟨w1.heap.size, 6, none⟩ = some (.int .i64 f.f6) := (cell_of_heap BFb.out 6).trans rfl; clear hc2 hk2) 
      | (go_at_call 34; have htok := T2; have hN := number_calls C2.out (by have := numJ_len f.f3 x.f1 jm; omega) f.f4 x.f2 x hx (fun h => absurd h NK.out.2.2.1) (fun h => absurd h NK.out.2.2.2.1); rw [Q2.out] at hN; refine hN.mono ?_; clear T2 htok hN; rintro e2 w3 ⟨rfl, ⟨vj2, hc2⟩, hk2⟩; have C3 := Aside0.mk hc2; have K2 := Aside0.mk hk2; have BXc := Aside0.mk (hk2.same _ _ 39 (by decide) (by decide) (by decide) BXb.out); have BFc := Aside0.mk (hk2.same _ _ 44 (by decide) (by decide) (by decide) BFb.out); have xc0 : (w3).cell? ⟨w.heap.size, 0, none⟩ = some (.string x.f0) := (cell_of_heap BXc.out 0).trans rfl; have xc1 : (w3).cell? ⟨w.heap.size, 1, none⟩ = some (.int .i64 x.f1) := (cell_of_heap BXc.out 1).trans rfl; have xc2 : (w3).cell? ⟨w.heap.size, 2, none⟩ = some (.int .i64 x.f2) := (cell_of_heap BXc.out 2).trans rfl; have xc3 : (w3).cell? ⟨w.heap.size, 3, none⟩ = some (.int .i64 x.f3) := (cell_of_heap BXc.out 3).trans rfl; have xc4 : (w3).cell? ⟨w.heap.size, 4, none⟩ = some (.string x.f4) := (cell_of_heap BXc.out 4).trans rfl; have fc1 : (w3).cell? ⟨w1.heap.size, 1, none⟩ = some (.int .i64 f.f1) := (cell_of_heap BFc.out 1).trans rfl; have fc2 : (w3).cell? ⟨w1.heap.size, 2, none⟩ = some (.int .i64 f.f2) := (cell_of_heap BFc.out 2).trans rfl; have fc3 : (w3).cell? ⟨w1.heap.size, 3, none⟩ = some (.int .i64 f.f3) := (cell_of_heap BFc.out 3).trans rfl; have fc4 : (w3).cell? ⟨w1.heap.size, 4, none⟩ = some (.int .i64 f.f4) := (cell_of_heap BFc.out 4).trans rfl; have fc5 : (w3).cell? ⟨w1.heap.size, 5, none⟩ = some (.int .i64 f.f5) := (cell_of_heap BFc.out 5).trans rfl; have fc6 : (w3).cell? ⟨w1.heap.size, 6, none⟩ = some (.int .i64 f.f6) := (cell_of_heap BFc.out 6).trans rfl; clear hc2 hk2) 
      | (go_at_call 34; have htok := T3; have hN := number_calls C3.out (by have := numJ_len f.f3 x.f1 jm; have := numJ_len f.f4 x.f2 (numJ f.f3 x.f1 jm); omega) f.f5 x.f3 x hx P3.out P6.out; rw [Q3.out] at hN; refine hN.mono ?_; clear T3 htok hN; rintro e2 w4 ⟨rfl, ⟨vj3, hc2⟩, hk2⟩; have C4 := Aside0.mk hc2; have K3 := Aside0.mk hk2; have BXd := Aside0.mk (hk2.same _ _ 39 (by decide) (by decide) (by decide) BXc.out); have BFd := Aside0.mk (hk2.same _ _ 44 (by decide) (by decide) (by decide) BFc.out); have xd0 : (w4).cell? ⟨w.heap.size, 0, none⟩ = some (.string x.f0) := (cell_of_heap BXd.out 0).trans rfl; have xd1 : (w4).cell? ⟨w.heap.size, 1, none⟩ = some (.int .i64 x.f1) := (cell_of_heap BXd.out 1).trans rfl; have xd2 : (w4).cell? ⟨w.heap.size, 2, none⟩ = some (.int .i64 x.f2) := (cell_of_heap BXd.out 2).trans rfl; have xd3 : (w4).cell? ⟨w.heap.size, 3, none⟩ = some (.int .i64 x.f3) := (cell_of_heap BXd.out 3).trans rfl; have xd4 : (w4).cell? ⟨w.heap.size, 4, none⟩ = some (.string x.f4) := (cell_of_heap BXd.out 4).trans rfl; have fd1 : (w4).cell? ⟨w1.heap.size, 1, none⟩ = some (.int .i64 f.f1) := (cell_of_heap BFd.out 1).trans rfl; have fd2 : (w4).cell? ⟨w1.heap.size, 2, none⟩ = some (.int .i64 f.f2) := (cell_of_heap BFd.out 2).trans rfl; have fd3 : (w4).cell? ⟨w1.heap.size, 3, none⟩ = some (.int .i64 f.f3) := (cell_of_heap BFd.out 3).trans rfl; have fd4 : (w4).cell? ⟨w1.heap.size, 4, none⟩ = some (.int .i64 f.f4) := (cell_of_heap BFd.out 4).trans rfl; have fd5 : (w4).cell? ⟨w1.heap.size, 5, none⟩ = some (.int .i64 f.f5) := (cell_of_heap BFd.out 5).trans rfl; have fd6 : (w4).cell? ⟨w1.heap.size, 6, none⟩ = some (.int .i64 f.f6) := (cell_of_heap BFd.out 6).trans rfl; clear hc2 hk2) 
      | (go_at_call 35; have hT := texts_calls f.f6 x.f4 hx w4; rw [Q4.out] at hT; refine hT.mono ?_; clear hT; rintro e5 w5 ⟨rfl, hs5⟩; have S5 := Aside0.mk hs5; have C5 := Aside0.mk (C4.out.go hs5); have BXe := Aside0.mk (Cd.blk hs5.b BXd.out); have BFe := Aside0.mk (Cd.blk hs5.b BFd.out); have xe0 : (w5).cell? ⟨w.heap.size, 0, none⟩ = some (.string x.f0) := (cell_of_heap BXe.out 0).trans rfl; have xe1 : (w5).cell? ⟨w.heap.size, 1, none⟩ = some (.int .i64 x.f1) := (cell_of_heap BXe.out 1).trans rfl; have xe2 : (w5).cell? ⟨w.heap.size, 2, none⟩ = some (.int .i64 x.f2) := (cell_of_heap BXe.out 2).trans rfl; have xe3 : (w5).cell? ⟨w.heap.size, 3, none⟩ = some (.int .i64 x.f3) := (cell_of_heap BXe.out 3).trans rfl; have xe4 : (w5).cell? ⟨w.heap.size, 4, none⟩ = some (.string x.f4) := (cell_of_heap BXe.out 4).trans rfl; have fe1 : (w5).cell? ⟨w1.heap.size, 1, none⟩ = some (.int .i64 f.f1) := (cell_of_heap BFe.out 1).trans rfl; have fe2 : (w5).cell? ⟨w1.heap.size, 2, none⟩ = some (.int .i64 f.f2) := (cell_of_heap BFe.out 2).trans rfl; have fe3 : (w5).cell? ⟨w1.heap.size, 3, none⟩ = some (.int .i64 f.f3) := (cell_of_heap BFe.out 3).trans rfl; have fe4 : (w5).cell? ⟨w1.heap.size, 4, none⟩ = some (.int .i64 f.f4) := (cell_of_heap BFe.out 4).trans rfl; have fe5 : (w5).cell? ⟨w1.heap.size, 5, none⟩ = some (.int .i64 f.f5) := (cell_of_heap BFe.out 5).trans rfl; have fe6 : (w5).cell? ⟨w1.heap.size, 6, none⟩ = some (.int .i64 f.f6) := (cell_of_heap BFe.out 6).trans rfl; have c5 := C5.out.c; clear hs5))
  obtain ⟨ad, cs, rfl, hl, hK, hcl⟩ := Kd.C_get (HWS.out _ C5.out.since) (0 : Int) x.f1 (by omega) (by omega)
  rw [← HR.out] at hK
  have hce : cs = [.int .i64 r] := hK
  subst hce
  have hcell : w5.cell? (ad.add x.f1.toNat) = some (.int .i64 r) := by simpa [Kd.int, Kd.scalar] using hcl 0 _ rfl
  have c50 := C5.out.c.1
  rw [← HM.out] at c50
  clear hK hcl hl c5
  go_region
  all_goals go_wp2_with fail
  all_goals go_region
  all_goals go_wp2_with fail
  all_goals exact bodyPost_ret (v := .tuple #[.int .i64 (r), .int .i64 (f.f2), .bool (true)]) (by simp [results, Try.results23, go_sem]) rfl ⟨rfl, ⟨_, _, by omega, C5.out.go (Since.refl _).drew.drew⟩, (((((KeptT.since (S0.out.trans (S1.out.alloc (.cells #[.string f.f0, .int .i64 f.f1, .int .i64 f.f2, .int .i64 f.f3, .int .i64 f.f4, .int .i64 f.f5, .int .i64 f.f6] 44)))).trans K1.out).trans K2.out).trans K3.out).trans (KeptT.since S5.out)).trans (KeptT.since (Since.refl _).drew.drew)⟩

set_option maxHeartbeats 4000000 in
set_option maxRecDepth 100000 in
theorem instr_put (h : Ck w0 w bw bm A0 c0 ws rg A2 n2 c2 n D ve vj ev jm) (hj : jm.length ≤ 50000) (hn : n ≤ 50000) (x : S39) (hx : x.f4.size ≤ 9223372036854775800) (q0 : 0 ≤ plF x.f0) (q1 : numB ws rg D (fmF x.f0).f3 x.f1 x = true) (q2 : numB ws rg D (fmF x.f0).f4 x.f2 x = true) (q3 : numB ws rg D (fmF x.f0).f5 x.f3 x = true) (q4 : textB (fmF x.f0).f6 x.f4 = true) (o_con : (x.f0.toList == [99, 111, 110]) = false) (o_open : (x.f0.toList == [111, 112, 101, 110]) = false) (o_has : (x.f0.toList == [104, 97, 115]) = false) (o_not : (x.f0.toList == [110, 111, 116]) = false) (o_put : (x.f0.toList == [112, 117, 116]) = true) (o_swap : (x.f0.toList == [115, 119, 97, 112]) = false) (o_merge : (x.f0.toList == [109, 101, 114, 103, 101]) = false) :
    Calls Try.prog 23 #[.pointer (some ⟨bw, 0, none⟩), agI x] w (InsYes w0 w bw bm A0 c0 ws rg A2 n2 c2 n D ve ev (insJ x jm) (ws.getD x.f1.toNat 0) ((fmF x.f0).f2) (true)) := by
  obtain ⟨V, hV⟩ : ∃ V, V = w.alloc (.cells #[.string x.f0, .int .i64 x.f1, .int .i64 x.f2, .int .i64 x.f3, .string x.f4] 39) := ⟨_, rfl⟩
  have S0 := Aside0.mk (show Since w V by rw [hV]; exact (Since.refl w).alloc _)
  have HV := Aside0.mk hV
  have HB := Aside0.mk (show V.heap[w.heap.size]? = some (.cells #[.string x.f0, .int .i64 x.f1, .int .i64 x.f2, .int .i64 x.f3, .string x.f4] 39 (0, 0)) by rw [hV]; exact heap_alloc_new w _)
  have HC := Aside0.mk (h.go S0.out)
  have hok := forms_ok x.f0
  have hop := fun h => fm_op (op := x.f0) h
  have hFind := fun w => find_calls w x.f0
  obtain ⟨f, hf⟩ : ∃ f, f = fmF x.f0 := ⟨_, rfl⟩
  obtain ⟨pl, hpl⟩ : ∃ p, p = plF x.f0 := ⟨_, rfl⟩
  rw [← hf] at hok hop hFind
  rw [← hpl] at hop hFind
  have HFind := Aside0.mk (show ∀ w, Calls Try.prog 14 #[.string x.f0] w (fun e w' => e = .returned (.tuple #[.agg #[.string f.f0, .int .i64 f.f1, .int .i64 f.f2, .int .i64 f.f3, .int .i64 f.f4, .int .i64 f.f5, .int .i64 f.f6], .int .i64 pl]) ∧ Since w w') from hFind)
  have HOK := Aside0.mk hok
  have HOP := Aside0.mk hop
  have HF := Aside0.mk (And.intro hf hpl)
  simp only [formOk, Bool.and_eq_true, Bool.or_eq_true, decide_eq_true_eq] at hok
  obtain ⟨⟨⟨⟨⟨⟨⟨⟨⟨⟨⟨e1, e2⟩, e3⟩, e4⟩, e5⟩, e6⟩, e7⟩, e8⟩, e9⟩, e10⟩, e11⟩, e12⟩ := hok
  have NK := Aside0.mk (And.intro e1 (And.intro e2 (And.intro e3 (And.intro e4 e5))))
  have NE := Aside0.mk (And.intro e6 (And.intro e7 (And.intro e8 (And.intro e9 (And.intro e10 (And.intro e11 e12))))))
  rw [← hf] at q1 q2 q3 q4
  rw [← hpl] at q0
  have q0' : decide (pl < 0) = false := decide_eq_false (by omega)
  have hJ : insJ x jm = numJ f.f5 x.f3 (numJ f.f4 x.f2 (numJ f.f3 x.f1 jm)) := by rw [hf]; rfl
  rw [hJ]
  try rw [← hf]
  clear hJ
  have T1 := True.intro
  have T2 := True.intro
  have T3 := True.intro
  have Q1 := Aside0.mk q1
  have Q2 := Aside0.mk q2
  have Q3 := Aside0.mk q3
  have Q4 := Aside0.mk q4
  have Q0 := Aside0.mk q0
  have P3 := Aside0.mk (show f.f5 = 3 → isOp x.f0 [109, 97, 116, 99, 104] = false → 0 ≤ x.f1 ∧ x.f1 < 64 from fun h5 hm => by
    rcases NK.out.2.2.2.2 with (h | h) | h
    · exact absurd h5 h
    · rw [HOP.out (by omega)] at h
      exact absurd (show isOp x.f0 [109, 97, 116, 99, 104] = true from h) (by rw [hm]; decide)
    · have h3 : f.f3 = 5 := eq_of_beq h
      have hq := Q1.out
      rw [h3] at hq
      unfold numB at hq
      simpa using hq)
  have P6 := Aside0.mk (show f.f5 = 6 → 0 ≤ x.f2 ∧ x.f2 < ws.length from fun h5 => by
    rcases NE.out.1 with h | h
    · exact absurd h5 h
    · have h3 : f.f4 = 4 := eq_of_beq h
      have hq := Q2.out
      rw [h3] at hq
      unfold numB at hq
      simpa using hq)
  clear hV hf hpl h hFind hop e1 e2 e3 e4 e5 e6 e7 e8 e9 e10 e11 e12 q1 q2 q3 q4
  show Calls Try.prog 23 #[.pointer (some ⟨bw, 0, none⟩), .agg #[.string x.f0, .int .i64 x.f1, .int .i64 x.f2, .int .i64 x.f3, .string x.f4]] w _
  have k4 : f.f3 = 4 := by
    rcases NE.out.2.2.2.2.1 with h | h
    · rw [HOP.out (by omega)] at h
      simp [o_put] at h
    · exact eq_of_beq h
  have ha : 0 ≤ x.f1 ∧ x.f1 < ws.length := by
    have hq := Q1.out
    rw [k4] at hq
    unfold numB at hq
    simpa using hq
  obtain ⟨m, hm⟩ : ∃ m, m = ws.length := ⟨_, rfl⟩
  have HM := Aside0.mk hm
  have HWS := Aside0.mk (show ∀ w', Since w0 w' → Kd.C (Kd.int .i64) w' A0 m ws from fun w' hs => by rw [hm]; exact Kd.C_below HC.out.W hs.b)
  clear hm
  rw [← HM.out] at ha
  obtain ⟨ha1, ha2⟩ := ha
  obtain ⟨r, hr⟩ : ∃ r, r = ws.getD x.f1.toNat 0 := ⟨_, rfl⟩
  rw [← hr]
  have HR := Aside0.mk hr
  clear hr k4
  go_enter Try.func23, Try.ntmps23
  go_wp2_with (first
      | (go_at_call 14; rw [← HV.out]; refine (HFind.out V).mono ?_; rintro e1 w1 ⟨rfl, hs1⟩; have S1 := Aside0.mk hs1; have BXa := Aside0.mk (blk_alloc (Cd.blk hs1.b HB.out) (.cells #[.string f.f0, .int .i64 f.f1, .int .i64 f.f2, .int .i64 f.f3, .int .i64 f.f4, .int .i64 f.f5, .int .i64 f.f6] 44)); have BFa := Aside0.mk (heap_alloc_new w1 (.cells #[.string f.f0, .int .i64 f.f1, .int .i64 f.f2, .int .i64 f.f3, .int .i64 f.f4, .int .i64 f.f5, .int .i64 f.f6] 44)); have C1 := Aside0.mk (HC.out.go (hs1.alloc (.cells #[.string f.f0, .int .i64 f.f1, .int .i64 f.f2, .int .i64 f.f3, .int .i64 f.f4, .int .i64 f.f5, .int .i64 f.f6] 44))); have xa0 : (w1.alloc (.cells #[.string f.f0, .int .i64 f.f1, .int .i64 f.f2, .int .i64 f.f3, .int .i64 f.f4, .int .i64 f.f5, .int .i64 f.f6] 44)).cell? ⟨w.heap.size, 0, none⟩ = some (.string x.f0) := (cell_of_heap BXa.out 0).trans rfl; have xa1 : (w1.alloc (.cells #[.string f.f0, .int .i64 f.f1, .int .i64 f.f2, .int .i64 f.f3, .int .i64 f.f4, .int .i64 f.f5, .int .i64 f.f6] 44)).cell? ⟨w.heap.size, 1, none⟩ = some (.int .i64 x.f1) := (cell_of_heap BXa.out 1).trans rfl; have xa2 : (w1.alloc (.cells #[.string f.f0, .int .i64 f.f1, .int .i64 f.f2, .int .i64 f.f3, .int .i64 f.f4, .int .i64 f.f5, .int .i64 f.f6] 44)).cell? ⟨w.heap.size, 2, none⟩ = some (.int .i64 x.f2) := (cell_of_heap BXa.out 2).trans rfl; have xa3 : (w1.alloc (.cells #[.string f.f0, .int .i64 f.f1, .int .i64 f.f2, .int .i64 f.f3, .int .i64 f.f4, .int .i64 f.f5, .int .i64 f.f6] 44)).cell? ⟨w.heap.size, 3, none⟩ = some (.int .i64 x.f3) := (cell_of_heap BXa.out 3).trans rfl; have xa4 : (w1.alloc (.cells #[.string f.f0, .int .i64 f.f1, .int .i64 f.f2, .int .i64 f.f3, .int .i64 f.f4, .int .i64 f.f5, .int .i64 f.f6] 44)).cell? ⟨w.heap.size, 4, none⟩ = some (.string x.f4) := (cell_of_heap BXa.out 4).trans rfl; have fa1 : (w1.alloc (.cells #[.string f.f0, .int .i64 f.f1, .int .i64 f.f2, .int .i64 f.f3, .int .i64 f.f4, .int .i64 f.f5, .int .i64 f.f6] 44)).cell? ⟨w1.heap.size, 1, none⟩ = some (.int .i64 f.f1) := (cell_of_heap BFa.out 1).trans rfl; have fa2 : (w1.alloc (.cells #[.string f.f0, .int .i64 f.f1, .int .i64 f.f2, .int .i64 f.f3, .int .i64 f.f4, .int .i64 f.f5, .int .i64 f.f6] 44)).cell? ⟨w1.heap.size, 2, none⟩ = some (.int .i64 f.f2) := (cell_of_heap BFa.out 2).trans rfl; have fa3 : (w1.alloc (.cells #[.string f.f0, .int .i64 f.f1, .int .i64 f.f2, .int .i64 f.f3, .int .i64 f.f4, .int .i64 f.f5, .int .i64 f.f6] 44)).cell? ⟨w1.heap.size, 3, none⟩ = some (.int .i64 f.f3) := (cell_of_heap BFa.out 3).trans rfl; have fa4 : (w1.alloc (.cells #[.string f.f0, .int .i64 f.f1, .int .i64 f.f2, .int .i64 f.f3, .int .i64 f.f4, .int .i64 f.f5, .int .i64 f.f6] 44)).cell? ⟨w1.heap.size, 4, none⟩ = some (.int .i64 f.f4) := (cell_of_heap BFa.out 4).trans rfl; have fa5 : (w1.alloc (.cells #[.string f.f0, .int .i64 f.f1, .int .i64 f.f2, .int .i64 f.f3, .int .i64 f.f4, .int .i64 f.f5, .int .i64 f.f6] 44)).cell? ⟨w1.heap.size, 5, none⟩ = some (.int .i64 f.f5) := (cell_of_heap BFa.out 5).trans rfl; have fa6 : (w1.alloc (.cells #[.string f.f0, .int .i64 f.f1, .int .i64 f.f2, .int .i64 f.f3, .int .i64 f.f4, .int .i64 f.f5, .int .i64 f.f6] 44)).cell? ⟨w1.heap.size, 6, none⟩ = some (.int .i64 f.f6) := (cell_of_heap BFa.out 6).trans rfl; clear hs1) 
      | (go_at_call 34; have htok := T1; have hN := number_calls C1.out (by omega) f.f3 x.f1 x hx (fun h => absurd h NK.out.1) (fun h => absurd h NK.out.2.1); rw [Q1.out] at hN; refine hN.mono ?_; clear T1 htok hN; rintro e2 w2 ⟨rfl, ⟨vj1, hc2⟩, hk2⟩; have C2 := Aside0.mk hc2; have K1 := Aside0.mk hk2; have BXb := Aside0.mk (hk2.same _ _ 39 (by decide) (by decide) (by decide) BXa.out); have BFb := Aside0.mk (hk2.same _ _ 44 (by decide) (by decide) (by decide) BFa.out); have xb0 : (w2).cell? ⟨w.heap.size, 0, none⟩ = some (.string x.f0) := (cell_of_heap BXb.out 0).trans rfl; have xb1 : (w2).cell? ⟨w.heap.size, 1, none⟩ = some (.int .i64 x.f1) := (cell_of_heap BXb.out 1).trans rfl; have xb2 : (w2).cell? ⟨w.heap.size, 2, none⟩ = some (.int .i64 x.f2) := (cell_of_heap BXb.out 2).trans rfl; have xb3 : (w2).cell? ⟨w.heap.size, 3, none⟩ = some (.int .i64 x.f3) := (cell_of_heap BXb.out 3).trans rfl; have xb4 : (w2).cell? ⟨w.heap.size, 4, none⟩ = some (.string x.f4) := (cell_of_heap BXb.out 4).trans rfl; have fb1 : (w2).cell? ⟨w1.heap.size, 1, none⟩ = some (.int .i64 f.f1) := (cell_of_heap BFb.out 1).trans rfl; have fb2 : (w2).cell? ⟨w1.heap.size, 2, none⟩ = some (.int .i64 f.f2) := (cell_of_heap BFb.out 2).trans rfl; have fb3 : (w2).cell? ⟨w1.heap.size, 3, none⟩ = some (.int .i64 f.f3) := (cell_of_heap BFb.out 3).trans rfl; have fb4 : (w2).cell? ⟨w1.heap.size, 4, none⟩ = some (.int .i64 f.f4) := (cell_of_heap BFb.out 4).trans rfl; have fb5 : (w2).cell? ⟨w1.heap.size, 5, none⟩ = some (.int .i64 f.f5) := (cell_of_heap BFb.out 5).trans rfl; have fb6 : (w2).cell? ⟨w1.heap.size, 6, none⟩ = some (.int .i64 f.f6) := (cell_of_heap BFb.out 6).trans rfl; clear hc2 hk2) 
      | (go_at_call 34; have htok := T2; have hN := number_calls C2.out (by have := numJ_len f.f3 x.f1 jm; omega) f.f4 x.f2 x hx (fun h => absurd h NK.out.2.2.1) (fun h => absurd h NK.out.2.2.2.1); rw [Q2.out] at hN; refine hN.mono ?_; clear T2 htok hN; rintro e2 w3 ⟨rfl, ⟨vj2, hc2⟩, hk2⟩; have C3 := Aside0.mk hc2; have K2 := Aside0.mk hk2; have BXc := Aside0.mk (hk2.same _ _ 39 (by decide) (by decide) (by decide) BXb.out); have BFc := Aside0.mk (hk2.same _ _ 44 (by decide) (by decide) (by decide) BFb.out); have xc0 : (w3).cell? ⟨w.heap.size, 0, none⟩ = some (.string x.f0) := (cell_of_heap BXc.out 0).trans rfl; have xc1 : (w3).cell? ⟨w.heap.size, 1, none⟩ = some (.int .i64 x.f1) := (cell_of_heap BXc.out 1).trans rfl; have xc2 : (w3).cell? ⟨w.heap.size, 2, none⟩ = some (.int .i64 x.f2) := (cell_of_heap BXc.out 2).trans rfl; have xc3 : (w3).cell? ⟨w.heap.size, 3, none⟩ = some (.int .i64 x.f3) := (cell_of_heap BXc.out 3).trans rfl; have xc4 : (w3).cell? ⟨w.heap.size, 4, none⟩ = some (.string x.f4) := (cell_of_heap BXc.out 4).trans rfl; have fc1 : (w3).cell? ⟨w1.heap.size, 1, none⟩ = some (.int .i64 f.f1) := (cell_of_heap BFc.out 1).trans rfl; have fc2 : (w3).cell? ⟨w1.heap.size, 2, none⟩ = some (.int .i64 f.f2) := (cell_of_heap BFc.out 2).trans rfl; have fc3 : (w3).cell? ⟨w1.heap.size, 3, none⟩ = some (.int .i64 f.f3) := (cell_of_heap BFc.out 3).trans rfl; have fc4 : (w3).cell? ⟨w1.heap.size, 4, none⟩ = some (.int .i64 f.f4) := (cell_of_heap BFc.out 4).trans rfl; have fc5 : (w3).cell? ⟨w1.heap.size, 5, none⟩ = some (.int .i64 f.f5) := (cell_of_heap BFc.out 5).trans rfl; have fc6 : (w3).cell? ⟨w1.heap.size, 6, none⟩ = some (.int .i64 f.f6) := (cell_of_heap BFc.out 6).trans rfl; clear hc2 hk2) 
      | (go_at_call 34; have htok := T3; have hN := number_calls C3.out (by have := numJ_len f.f3 x.f1 jm; have := numJ_len f.f4 x.f2 (numJ f.f3 x.f1 jm); omega) f.f5 x.f3 x hx P3.out P6.out; rw [Q3.out] at hN; refine hN.mono ?_; clear T3 htok hN; rintro e2 w4 ⟨rfl, ⟨vj3, hc2⟩, hk2⟩; have C4 := Aside0.mk hc2; have K3 := Aside0.mk hk2; have BXd := Aside0.mk (hk2.same _ _ 39 (by decide) (by decide) (by decide) BXc.out); have BFd := Aside0.mk (hk2.same _ _ 44 (by decide) (by decide) (by decide) BFc.out); have xd0 : (w4).cell? ⟨w.heap.size, 0, none⟩ = some (.string x.f0) := (cell_of_heap BXd.out 0).trans rfl; have xd1 : (w4).cell? ⟨w.heap.size, 1, none⟩ = some (.int .i64 x.f1) := (cell_of_heap BXd.out 1).trans rfl; have xd2 : (w4).cell? ⟨w.heap.size, 2, none⟩ = some (.int .i64 x.f2) := (cell_of_heap BXd.out 2).trans rfl; have xd3 : (w4).cell? ⟨w.heap.size, 3, none⟩ = some (.int .i64 x.f3) := (cell_of_heap BXd.out 3).trans rfl; have xd4 : (w4).cell? ⟨w.heap.size, 4, none⟩ = some (.string x.f4) := (cell_of_heap BXd.out 4).trans rfl; have fd1 : (w4).cell? ⟨w1.heap.size, 1, none⟩ = some (.int .i64 f.f1) := (cell_of_heap BFd.out 1).trans rfl; have fd2 : (w4).cell? ⟨w1.heap.size, 2, none⟩ = some (.int .i64 f.f2) := (cell_of_heap BFd.out 2).trans rfl; have fd3 : (w4).cell? ⟨w1.heap.size, 3, none⟩ = some (.int .i64 f.f3) := (cell_of_heap BFd.out 3).trans rfl; have fd4 : (w4).cell? ⟨w1.heap.size, 4, none⟩ = some (.int .i64 f.f4) := (cell_of_heap BFd.out 4).trans rfl; have fd5 : (w4).cell? ⟨w1.heap.size, 5, none⟩ = some (.int .i64 f.f5) := (cell_of_heap BFd.out 5).trans rfl; have fd6 : (w4).cell? ⟨w1.heap.size, 6, none⟩ = some (.int .i64 f.f6) := (cell_of_heap BFd.out 6).trans rfl; clear hc2 hk2) 
      | (go_at_call 35; have hT := texts_calls f.f6 x.f4 hx w4; rw [Q4.out] at hT; refine hT.mono ?_; clear hT; rintro e5 w5 ⟨rfl, hs5⟩; have S5 := Aside0.mk hs5; have C5 := Aside0.mk (C4.out.go hs5); have BXe := Aside0.mk (Cd.blk hs5.b BXd.out); have BFe := Aside0.mk (Cd.blk hs5.b BFd.out); have xe0 : (w5).cell? ⟨w.heap.size, 0, none⟩ = some (.string x.f0) := (cell_of_heap BXe.out 0).trans rfl; have xe1 : (w5).cell? ⟨w.heap.size, 1, none⟩ = some (.int .i64 x.f1) := (cell_of_heap BXe.out 1).trans rfl; have xe2 : (w5).cell? ⟨w.heap.size, 2, none⟩ = some (.int .i64 x.f2) := (cell_of_heap BXe.out 2).trans rfl; have xe3 : (w5).cell? ⟨w.heap.size, 3, none⟩ = some (.int .i64 x.f3) := (cell_of_heap BXe.out 3).trans rfl; have xe4 : (w5).cell? ⟨w.heap.size, 4, none⟩ = some (.string x.f4) := (cell_of_heap BXe.out 4).trans rfl; have fe1 : (w5).cell? ⟨w1.heap.size, 1, none⟩ = some (.int .i64 f.f1) := (cell_of_heap BFe.out 1).trans rfl; have fe2 : (w5).cell? ⟨w1.heap.size, 2, none⟩ = some (.int .i64 f.f2) := (cell_of_heap BFe.out 2).trans rfl; have fe3 : (w5).cell? ⟨w1.heap.size, 3, none⟩ = some (.int .i64 f.f3) := (cell_of_heap BFe.out 3).trans rfl; have fe4 : (w5).cell? ⟨w1.heap.size, 4, none⟩ = some (.int .i64 f.f4) := (cell_of_heap BFe.out 4).trans rfl; have fe5 : (w5).cell? ⟨w1.heap.size, 5, none⟩ = some (.int .i64 f.f5) := (cell_of_heap BFe.out 5).trans rfl; have fe6 : (w5).cell? ⟨w1.heap.size, 6, none⟩ = some (.int .i64 f.f6) := (cell_of_heap BFe.out 6).trans rfl; have c5 := C5.out.c; clear hs5))
  obtain ⟨ad, cs, rfl, hl, hK, hcl⟩ := Kd.C_get (HWS.out _ C5.out.since) (0 : Int) x.f1 (by omega) (by omega)
  rw [← HR.out] at hK
  have hce : cs = [.int .i64 r] := hK
  subst hce
  have hcell : w5.cell? (ad.add x.f1.toNat) = some (.int .i64 r) := by simpa [Kd.int, Kd.scalar] using hcl 0 _ rfl
  have c50 := C5.out.c.1
  rw [← HM.out] at c50
  clear hK hcl hl c5
  go_region
  all_goals go_wp2_with fail
  all_goals go_region
  all_goals go_wp2_with fail
  all_goals exact bodyPost_ret (v := .tuple #[.int .i64 (r), .int .i64 (f.f2), .bool (true)]) (by simp [results, Try.results23, go_sem]) rfl ⟨rfl, ⟨_, _, by omega, C5.out.go (Since.refl _).drew.drew⟩, (((((KeptT.since (S0.out.trans (S1.out.alloc (.cells #[.string f.f0, .int .i64 f.f1, .int .i64 f.f2, .int .i64 f.f3, .int .i64 f.f4, .int .i64 f.f5, .int .i64 f.f6] 44)))).trans K1.out).trans K2.out).trans K3.out).trans (KeptT.since S5.out)).trans (KeptT.since (Since.refl _).drew.drew)⟩

set_option maxHeartbeats 4000000 in
set_option maxRecDepth 100000 in
theorem instr_swap (h : Ck w0 w bw bm A0 c0 ws rg A2 n2 c2 n D ve vj ev jm) (hj : jm.length ≤ 50000) (hn : n ≤ 50000) (x : S39) (hx : x.f4.size ≤ 9223372036854775800) (q0 : 0 ≤ plF x.f0) (q1 : numB ws rg D (fmF x.f0).f3 x.f1 x = true) (q2 : numB ws rg D (fmF x.f0).f4 x.f2 x = true) (q3 : numB ws rg D (fmF x.f0).f5 x.f3 x = true) (q4 : textB (fmF x.f0).f6 x.f4 = true) (o_con : (x.f0.toList == [99, 111, 110]) = false) (o_open : (x.f0.toList == [111, 112, 101, 110]) = false) (o_has : (x.f0.toList == [104, 97, 115]) = false) (o_not : (x.f0.toList == [110, 111, 116]) = false) (o_put : (x.f0.toList == [112, 117, 116]) = false) (o_swap : (x.f0.toList == [115, 119, 97, 112]) = true) (o_merge : (x.f0.toList == [109, 101, 114, 103, 101]) = false) :
    Calls Try.prog 23 #[.pointer (some ⟨bw, 0, none⟩), agI x] w (InsYes w0 w bw bm A0 c0 ws rg A2 n2 c2 n D ve ev (insJ x jm) (0) (0) (ws.getD x.f1.toNat 0 == ws.getD x.f2.toNat 0)) := by
  obtain ⟨V, hV⟩ : ∃ V, V = w.alloc (.cells #[.string x.f0, .int .i64 x.f1, .int .i64 x.f2, .int .i64 x.f3, .string x.f4] 39) := ⟨_, rfl⟩
  have S0 := Aside0.mk (show Since w V by rw [hV]; exact (Since.refl w).alloc _)
  have HV := Aside0.mk hV
  have HB := Aside0.mk (show V.heap[w.heap.size]? = some (.cells #[.string x.f0, .int .i64 x.f1, .int .i64 x.f2, .int .i64 x.f3, .string x.f4] 39 (0, 0)) by rw [hV]; exact heap_alloc_new w _)
  have HC := Aside0.mk (h.go S0.out)
  have hok := forms_ok x.f0
  have hop := fun h => fm_op (op := x.f0) h
  have hFind := fun w => find_calls w x.f0
  obtain ⟨f, hf⟩ : ∃ f, f = fmF x.f0 := ⟨_, rfl⟩
  obtain ⟨pl, hpl⟩ : ∃ p, p = plF x.f0 := ⟨_, rfl⟩
  rw [← hf] at hok hop hFind
  rw [← hpl] at hop hFind
  have HFind := Aside0.mk (show ∀ w, Calls Try.prog 14 #[.string x.f0] w (fun e w' => e = .returned (.tuple #[.agg #[.string f.f0, .int .i64 f.f1, .int .i64 f.f2, .int .i64 f.f3, .int .i64 f.f4, .int .i64 f.f5, .int .i64 f.f6], .int .i64 pl]) ∧ Since w w') from hFind)
  have HOK := Aside0.mk hok
  have HOP := Aside0.mk hop
  have HF := Aside0.mk (And.intro hf hpl)
  simp only [formOk, Bool.and_eq_true, Bool.or_eq_true, decide_eq_true_eq] at hok
  obtain ⟨⟨⟨⟨⟨⟨⟨⟨⟨⟨⟨e1, e2⟩, e3⟩, e4⟩, e5⟩, e6⟩, e7⟩, e8⟩, e9⟩, e10⟩, e11⟩, e12⟩ := hok
  have NK := Aside0.mk (And.intro e1 (And.intro e2 (And.intro e3 (And.intro e4 e5))))
  have NE := Aside0.mk (And.intro e6 (And.intro e7 (And.intro e8 (And.intro e9 (And.intro e10 (And.intro e11 e12))))))
  rw [← hf] at q1 q2 q3 q4
  rw [← hpl] at q0
  have q0' : decide (pl < 0) = false := decide_eq_false (by omega)
  have hJ : insJ x jm = numJ f.f5 x.f3 (numJ f.f4 x.f2 (numJ f.f3 x.f1 jm)) := by rw [hf]; rfl
  rw [hJ]
  try rw [← hf]
  clear hJ
  have T1 := True.intro
  have T2 := True.intro
  have T3 := True.intro
  have Q1 := Aside0.mk q1
  have Q2 := Aside0.mk q2
  have Q3 := Aside0.mk q3
  have Q4 := Aside0.mk q4
  have Q0 := Aside0.mk q0
  have P3 := Aside0.mk (show f.f5 = 3 → isOp x.f0 [109, 97, 116, 99, 104] = false → 0 ≤ x.f1 ∧ x.f1 < 64 from fun h5 hm => by
    rcases NK.out.2.2.2.2 with (h | h) | h
    · exact absurd h5 h
    · rw [HOP.out (by omega)] at h
      exact absurd (show isOp x.f0 [109, 97, 116, 99, 104] = true from h) (by rw [hm]; decide)
    · have h3 : f.f3 = 5 := eq_of_beq h
      have hq := Q1.out
      rw [h3] at hq
      unfold numB at hq
      simpa using hq)
  have P6 := Aside0.mk (show f.f5 = 6 → 0 ≤ x.f2 ∧ x.f2 < ws.length from fun h5 => by
    rcases NE.out.1 with h | h
    · exact absurd h5 h
    · have h3 : f.f4 = 4 := eq_of_beq h
      have hq := Q2.out
      rw [h3] at hq
      unfold numB at hq
      simpa using hq)
  clear hV hf hpl h hFind hop e1 e2 e3 e4 e5 e6 e7 e8 e9 e10 e11 e12 q1 q2 q3 q4
  show Calls Try.prog 23 #[.pointer (some ⟨bw, 0, none⟩), .agg #[.string x.f0, .int .i64 x.f1, .int .i64 x.f2, .int .i64 x.f3, .string x.f4]] w _
  have k4 : f.f3 = 4 ∧ f.f4 = 4 := by
    rcases NE.out.2.2.2.2.2.1 with h | h
    · rw [HOP.out (by omega)] at h
      simp [o_swap] at h
    · exact ⟨eq_of_beq h.1, eq_of_beq h.2⟩
  have ha : 0 ≤ x.f1 ∧ x.f1 < ws.length := by
    have hq := Q1.out
    rw [k4.1] at hq
    unfold numB at hq
    simpa using hq
  have hb : 0 ≤ x.f2 ∧ x.f2 < ws.length := by
    have hq := Q2.out
    rw [k4.2] at hq
    unfold numB at hq
    simpa using hq
  obtain ⟨m, hm⟩ : ∃ m, m = ws.length := ⟨_, rfl⟩
  have HM := Aside0.mk hm
  have HWS := Aside0.mk (show ∀ w', Since w0 w' → Kd.C (Kd.int .i64) w' A0 m ws from fun w' hs => by rw [hm]; exact Kd.C_below HC.out.W hs.b)
  clear hm
  rw [← HM.out] at ha hb
  obtain ⟨ha1, ha2⟩ := ha
  obtain ⟨hb1, hb2⟩ := hb
  obtain ⟨r, hr⟩ : ∃ r, r = ws.getD x.f1.toNat 0 := ⟨_, rfl⟩
  obtain ⟨r', hr'⟩ : ∃ r, r = ws.getD x.f2.toNat 0 := ⟨_, rfl⟩
  rw [← hr, ← hr']
  have HR := Aside0.mk (And.intro hr hr')
  clear hr hr' k4
  go_enter Try.func23, Try.ntmps23
  go_wp2_with (first
      | (go_at_call 14; rw [← HV.out]; refine (HFind.out V).mono ?_; rintro e1 w1 ⟨rfl, hs1⟩; have S1 := Aside0.mk hs1; have BXa := Aside0.mk (blk_alloc (Cd.blk hs1.b HB.out) (.cells #[.string f.f0, .int .i64 f.f1, .int .i64 f.f2, .int .i64 f.f3, .int .i64 f.f4, .int .i64 f.f5, .int .i64 f.f6] 44)); have BFa := Aside0.mk (heap_alloc_new w1 (.cells #[.string f.f0, .int .i64 f.f1, .int .i64 f.f2, .int .i64 f.f3, .int .i64 f.f4, .int .i64 f.f5, .int .i64 f.f6] 44)); have C1 := Aside0.mk (HC.out.go (hs1.alloc (.cells #[.string f.f0, .int .i64 f.f1, .int .i64 f.f2, .int .i64 f.f3, .int .i64 f.f4, .int .i64 f.f5, .int .i64 f.f6] 44))); have xa0 : (w1.alloc (.cells #[.string f.f0, .int .i64 f.f1, .int .i64 f.f2, .int .i64 f.f3, .int .i64 f.f4, .int .i64 f.f5, .int .i64 f.f6] 44)).cell? ⟨w.heap.size, 0, none⟩ = some (.string x.f0) := (cell_of_heap BXa.out 0).trans rfl; have xa1 : (w1.alloc (.cells #[.string f.f0, .int .i64 f.f1, .int .i64 f.f2, .int .i64 f.f3, .int .i64 f.f4, .int .i64 f.f5, .int .i64 f.f6] 44)).cell? ⟨w.heap.size, 1, none⟩ = some (.int .i64 x.f1) := (cell_of_heap BXa.out 1).trans rfl; have xa2 : (w1.alloc (.cells #[.string f.f0, .int .i64 f.f1, .int .i64 f.f2, .int .i64 f.f3, .int .i64 f.f4, .int .i64 f.f5, .int .i64 f.f6] 44)).cell? ⟨w.heap.size, 2, none⟩ = some (.int .i64 x.f2) := (cell_of_heap BXa.out 2).trans rfl; have xa3 : (w1.alloc (.cells #[.string f.f0, .int .i64 f.f1, .int .i64 f.f2, .int .i64 f.f3, .int .i64 f.f4, .int .i64 f.f5, .int .i64 f.f6] 44)).cell? ⟨w.heap.size, 3, none⟩ = some (.int .i64 x.f3) := (cell_of_heap BXa.out 3).trans rfl; have xa4 : (w1.alloc (.cells #[.string f.f0, .int .i64 f.f1, .int .i64 f.f2, .int .i64 f.f3, .int .i64 f.f4, .int .i64 f.f5, .int .i64 f.f6] 44)).cell? ⟨w.heap.size, 4, none⟩ = some (.string x.f4) := (cell_of_heap BXa.out 4).trans rfl; have fa1 : (w1.alloc (.cells #[.string f.f0, .int .i64 f.f1, .int .i64 f.f2, .int .i64 f.f3, .int .i64 f.f4, .int .i64 f.f5, .int .i64 f.f6] 44)).cell? ⟨w1.heap.size, 1, none⟩ = some (.int .i64 f.f1) := (cell_of_heap BFa.out 1).trans rfl; have fa2 : (w1.alloc (.cells #[.string f.f0, .int .i64 f.f1, .int .i64 f.f2, .int .i64 f.f3, .int .i64 f.f4, .int .i64 f.f5, .int .i64 f.f6] 44)).cell? ⟨w1.heap.size, 2, none⟩ = some (.int .i64 f.f2) := (cell_of_heap BFa.out 2).trans rfl; have fa3 : (w1.alloc (.cells #[.string f.f0, .int .i64 f.f1, .int .i64 f.f2, .int .i64 f.f3, .int .i64 f.f4, .int .i64 f.f5, .int .i64 f.f6] 44)).cell? ⟨w1.heap.size, 3, none⟩ = some (.int .i64 f.f3) := (cell_of_heap BFa.out 3).trans rfl; have fa4 : (w1.alloc (.cells #[.string f.f0, .int .i64 f.f1, .int .i64 f.f2, .int .i64 f.f3, .int .i64 f.f4, .int .i64 f.f5, .int .i64 f.f6] 44)).cell? ⟨w1.heap.size, 4, none⟩ = some (.int .i64 f.f4) := (cell_of_heap BFa.out 4).trans rfl; have fa5 : (w1.alloc (.cells #[.string f.f0, .int .i64 f.f1, .int .i64 f.f2, .int .i64 f.f3, .int .i64 f.f4, .int .i64 f.f5, .int .i64 f.f6] 44)).cell? ⟨w1.heap.size, 5, none⟩ = some (.int .i64 f.f5) := (cell_of_heap BFa.out 5).trans rfl; have fa6 : (w1.alloc (.cells #[.string f.f0, .int .i64 f.f1, .int .i64 f.f2, .int .i64 f.f3, .int .i64 f.f4, .int .i64 f.f5, .int .i64 f.f6] 44)).cell? ⟨w1.heap.size, 6, none⟩ = some (.int .i64 f.f6) := (cell_of_heap BFa.out 6).trans rfl; clear hs1) 
      | (go_at_call 34; have htok := T1; have hN := number_calls C1.out (by omega) f.f3 x.f1 x hx (fun h => absurd h NK.out.1) (fun h => absurd h NK.out.2.1); rw [Q1.out] at hN; refine hN.mono ?_; clear T1 htok hN; rintro e2 w2 ⟨rfl, ⟨vj1, hc2⟩, hk2⟩; have C2 := Aside0.mk hc2; have K1 := Aside0.mk hk2; have BXb := Aside0.mk (hk2.same _ _ 39 (by decide) (by decide) (by decide) BXa.out); have BFb := Aside0.mk (hk2.same _ _ 44 (by decide) (by decide) (by decide) BFa.out); have xb0 : (w2).cell? ⟨w.heap.size, 0, none⟩ = some (.string x.f0) := (cell_of_heap BXb.out 0).trans rfl; have xb1 : (w2).cell? ⟨w.heap.size, 1, none⟩ = some (.int .i64 x.f1) := (cell_of_heap BXb.out 1).trans rfl; have xb2 : (w2).cell? ⟨w.heap.size, 2, none⟩ = some (.int .i64 x.f2) := (cell_of_heap BXb.out 2).trans rfl; have xb3 : (w2).cell? ⟨w.heap.size, 3, none⟩ = some (.int .i64 x.f3) := (cell_of_heap BXb.out 3).trans rfl; have xb4 : (w2).cell? ⟨w.heap.size, 4, none⟩ = some (.string x.f4) := (cell_of_heap BXb.out 4).trans rfl; have fb1 : (w2).cell? ⟨w1.heap.size, 1, none⟩ = some (.int .i64 f.f1) := (cell_of_heap BFb.out 1).trans rfl; have fb2 : (w2).cell? ⟨w1.heap.size, 2, none⟩ = some (.int .i64 f.f2) := (cell_of_heap BFb.out 2).trans rfl; have fb3 : (w2).cell? ⟨w1.heap.size, 3, none⟩ = some (.int .i64 f.f3) := (cell_of_heap BFb.out 3).trans rfl; have fb4 : (w2).cell? ⟨w1.heap.size, 4, none⟩ = some (.int .i64 f.f4) := (cell_of_heap BFb.out 4).trans rfl; have fb5 : (w2).cell? ⟨w1.heap.size, 5, none⟩ = some (.int .i64 f.f5) := (cell_of_heap BFb.out 5).trans rfl; have fb6 : (w2).cell? ⟨w1.heap.size, 6, none⟩ = some (.int .i64 f.f6) := (cell_of_heap BFb.out 6).trans rfl; clear hc2 hk2) 
      | (go_at_call 34; have htok := T2; have hN := number_calls C2.out (by have := numJ_len f.f3 x.f1 jm; omega) f.f4 x.f2 x hx (fun h => absurd h NK.out.2.2.1) (fun h => absurd h NK.out.2.2.2.1); rw [Q2.out] at hN; refine hN.mono ?_; clear T2 htok hN; rintro e2 w3 ⟨rfl, ⟨vj2, hc2⟩, hk2⟩; have C3 := Aside0.mk hc2; have K2 := Aside0.mk hk2; have BXc := Aside0.mk (hk2.same _ _ 39 (by decide) (by decide) (by decide) BXb.out); have BFc := Aside0.mk (hk2.same _ _ 44 (by decide) (by decide) (by decide) BFb.out); have xc0 : (w3).cell? ⟨w.heap.size, 0, none⟩ = some (.string x.f0) := (cell_of_heap BXc.out 0).trans rfl; have xc1 : (w3).cell? ⟨w.heap.size, 1, none⟩ = some (.int .i64 x.f1) := (cell_of_heap BXc.out 1).trans rfl; have xc2 : (w3).cell? ⟨w.heap.size, 2, none⟩ = some (.int .i64 x.f2) := (cell_of_heap BXc.out 2).trans rfl; have xc3 : (w3).cell? ⟨w.heap.size, 3, none⟩ = some (.int .i64 x.f3) := (cell_of_heap BXc.out 3).trans rfl; have xc4 : (w3).cell? ⟨w.heap.size, 4, none⟩ = some (.string x.f4) := (cell_of_heap BXc.out 4).trans rfl; have fc1 : (w3).cell? ⟨w1.heap.size, 1, none⟩ = some (.int .i64 f.f1) := (cell_of_heap BFc.out 1).trans rfl; have fc2 : (w3).cell? ⟨w1.heap.size, 2, none⟩ = some (.int .i64 f.f2) := (cell_of_heap BFc.out 2).trans rfl; have fc3 : (w3).cell? ⟨w1.heap.size, 3, none⟩ = some (.int .i64 f.f3) := (cell_of_heap BFc.out 3).trans rfl; have fc4 : (w3).cell? ⟨w1.heap.size, 4, none⟩ = some (.int .i64 f.f4) := (cell_of_heap BFc.out 4).trans rfl; have fc5 : (w3).cell? ⟨w1.heap.size, 5, none⟩ = some (.int .i64 f.f5) := (cell_of_heap BFc.out 5).trans rfl; have fc6 : (w3).cell? ⟨w1.heap.size, 6, none⟩ = some (.int .i64 f.f6) := (cell_of_heap BFc.out 6).trans rfl; clear hc2 hk2) 
      | (go_at_call 34; have htok := T3; have hN := number_calls C3.out (by have := numJ_len f.f3 x.f1 jm; have := numJ_len f.f4 x.f2 (numJ f.f3 x.f1 jm); omega) f.f5 x.f3 x hx P3.out P6.out; rw [Q3.out] at hN; refine hN.mono ?_; clear T3 htok hN; rintro e2 w4 ⟨rfl, ⟨vj3, hc2⟩, hk2⟩; have C4 := Aside0.mk hc2; have K3 := Aside0.mk hk2; have BXd := Aside0.mk (hk2.same _ _ 39 (by decide) (by decide) (by decide) BXc.out); have BFd := Aside0.mk (hk2.same _ _ 44 (by decide) (by decide) (by decide) BFc.out); have xd0 : (w4).cell? ⟨w.heap.size, 0, none⟩ = some (.string x.f0) := (cell_of_heap BXd.out 0).trans rfl; have xd1 : (w4).cell? ⟨w.heap.size, 1, none⟩ = some (.int .i64 x.f1) := (cell_of_heap BXd.out 1).trans rfl; have xd2 : (w4).cell? ⟨w.heap.size, 2, none⟩ = some (.int .i64 x.f2) := (cell_of_heap BXd.out 2).trans rfl; have xd3 : (w4).cell? ⟨w.heap.size, 3, none⟩ = some (.int .i64 x.f3) := (cell_of_heap BXd.out 3).trans rfl; have xd4 : (w4).cell? ⟨w.heap.size, 4, none⟩ = some (.string x.f4) := (cell_of_heap BXd.out 4).trans rfl; have fd1 : (w4).cell? ⟨w1.heap.size, 1, none⟩ = some (.int .i64 f.f1) := (cell_of_heap BFd.out 1).trans rfl; have fd2 : (w4).cell? ⟨w1.heap.size, 2, none⟩ = some (.int .i64 f.f2) := (cell_of_heap BFd.out 2).trans rfl; have fd3 : (w4).cell? ⟨w1.heap.size, 3, none⟩ = some (.int .i64 f.f3) := (cell_of_heap BFd.out 3).trans rfl; have fd4 : (w4).cell? ⟨w1.heap.size, 4, none⟩ = some (.int .i64 f.f4) := (cell_of_heap BFd.out 4).trans rfl; have fd5 : (w4).cell? ⟨w1.heap.size, 5, none⟩ = some (.int .i64 f.f5) := (cell_of_heap BFd.out 5).trans rfl; have fd6 : (w4).cell? ⟨w1.heap.size, 6, none⟩ = some (.int .i64 f.f6) := (cell_of_heap BFd.out 6).trans rfl; clear hc2 hk2) 
      | (go_at_call 35; have hT := texts_calls f.f6 x.f4 hx w4; rw [Q4.out] at hT; refine hT.mono ?_; clear hT; rintro e5 w5 ⟨rfl, hs5⟩; have S5 := Aside0.mk hs5; have C5 := Aside0.mk (C4.out.go hs5); have BXe := Aside0.mk (Cd.blk hs5.b BXd.out); have BFe := Aside0.mk (Cd.blk hs5.b BFd.out); have xe0 : (w5).cell? ⟨w.heap.size, 0, none⟩ = some (.string x.f0) := (cell_of_heap BXe.out 0).trans rfl; have xe1 : (w5).cell? ⟨w.heap.size, 1, none⟩ = some (.int .i64 x.f1) := (cell_of_heap BXe.out 1).trans rfl; have xe2 : (w5).cell? ⟨w.heap.size, 2, none⟩ = some (.int .i64 x.f2) := (cell_of_heap BXe.out 2).trans rfl; have xe3 : (w5).cell? ⟨w.heap.size, 3, none⟩ = some (.int .i64 x.f3) := (cell_of_heap BXe.out 3).trans rfl; have xe4 : (w5).cell? ⟨w.heap.size, 4, none⟩ = some (.string x.f4) := (cell_of_heap BXe.out 4).trans rfl; have fe1 : (w5).cell? ⟨w1.heap.size, 1, none⟩ = some (.int .i64 f.f1) := (cell_of_heap BFe.out 1).trans rfl; have fe2 : (w5).cell? ⟨w1.heap.size, 2, none⟩ = some (.int .i64 f.f2) := (cell_of_heap BFe.out 2).trans rfl; have fe3 : (w5).cell? ⟨w1.heap.size, 3, none⟩ = some (.int .i64 f.f3) := (cell_of_heap BFe.out 3).trans rfl; have fe4 : (w5).cell? ⟨w1.heap.size, 4, none⟩ = some (.int .i64 f.f4) := (cell_of_heap BFe.out 4).trans rfl; have fe5 : (w5).cell? ⟨w1.heap.size, 5, none⟩ = some (.int .i64 f.f5) := (cell_of_heap BFe.out 5).trans rfl; have fe6 : (w5).cell? ⟨w1.heap.size, 6, none⟩ = some (.int .i64 f.f6) := (cell_of_heap BFe.out 6).trans rfl; have c5 := C5.out.c; clear hs5))
  obtain ⟨ad, cs, hA, hl, hK, hcl⟩ := Kd.C_get (HWS.out _ C5.out.since) (0 : Int) x.f1 (by omega) (by omega)
  obtain ⟨ad2, cs2, hA2, hl2, hK2, hcl2⟩ := Kd.C_get (HWS.out _ C5.out.since) (0 : Int) x.f2 (by omega) (by omega)
  subst hA
  obtain rfl : ad = ad2 := Option.some.inj hA2
  rw [← HR.out.1] at hK
  rw [← HR.out.2] at hK2
  have hce : cs = [.int .i64 r] := hK
  have hce2 : cs2 = [.int .i64 r'] := hK2
  subst hce hce2
  have hcell : w5.cell? (ad.add x.f1.toNat) = some (.int .i64 r) := by simpa [Kd.int, Kd.scalar] using hcl 0 _ rfl
  have hcell2 : w5.cell? (ad.add x.f2.toNat) = some (.int .i64 r') := by simpa [Kd.int, Kd.scalar] using hcl2 0 _ rfl
  have c50 := C5.out.c.1
  rw [← HM.out] at c50
  clear hK hcl hl hK2 hcl2 hl2 c5 hA2
  go_region
  all_goals go_wp2_with fail
  all_goals exact bodyPost_ret (v := .tuple #[.int .i64 (0), .int .i64 (0), .bool (r == r')]) (by simp [results, Try.results23, go_sem]) rfl ⟨rfl, ⟨_, _, by omega, C5.out.go (Since.refl _).drew⟩, (((((KeptT.since (S0.out.trans (S1.out.alloc (.cells #[.string f.f0, .int .i64 f.f1, .int .i64 f.f2, .int .i64 f.f3, .int .i64 f.f4, .int .i64 f.f5, .int .i64 f.f6] 44)))).trans K1.out).trans K2.out).trans K3.out).trans (KeptT.since S5.out)).trans (KeptT.since (Since.refl _).drew)⟩

set_option maxHeartbeats 4000000 in
set_option maxRecDepth 100000 in
theorem instr_merge (h : Ck w0 w bw bm A0 c0 ws rg A2 n2 c2 n D ve vj ev jm) (hj : jm.length ≤ 50000) (hn : n ≤ 50000) (x : S39) (hx : x.f4.size ≤ 9223372036854775800) (q0 : 0 ≤ plF x.f0) (q1 : numB ws rg D (fmF x.f0).f3 x.f1 x = true) (q2 : numB ws rg D (fmF x.f0).f4 x.f2 x = true) (q3 : numB ws rg D (fmF x.f0).f5 x.f3 x = true) (q4 : textB (fmF x.f0).f6 x.f4 = true) (o_con : (x.f0.toList == [99, 111, 110]) = false) (o_open : (x.f0.toList == [111, 112, 101, 110]) = false) (o_has : (x.f0.toList == [104, 97, 115]) = false) (o_not : (x.f0.toList == [110, 111, 116]) = false) (o_put : (x.f0.toList == [112, 117, 116]) = false) (o_swap : (x.f0.toList == [115, 119, 97, 112]) = false) (o_merge : (x.f0.toList == [109, 101, 114, 103, 101]) = true) :
    Calls Try.prog 23 #[.pointer (some ⟨bw, 0, none⟩), agI x] w (InsYes w0 w bw bm A0 c0 ws rg A2 n2 c2 n D ve ev (insJ x jm) (0) (0) (ws.getD x.f1.toNat 0 == ws.getD x.f2.toNat 0)) := by
  obtain ⟨V, hV⟩ : ∃ V, V = w.alloc (.cells #[.string x.f0, .int .i64 x.f1, .int .i64 x.f2, .int .i64 x.f3, .string x.f4] 39) := ⟨_, rfl⟩
  have S0 := Aside0.mk (show Since w V by rw [hV]; exact (Since.refl w).alloc _)
  have HV := Aside0.mk hV
  have HB := Aside0.mk (show V.heap[w.heap.size]? = some (.cells #[.string x.f0, .int .i64 x.f1, .int .i64 x.f2, .int .i64 x.f3, .string x.f4] 39 (0, 0)) by rw [hV]; exact heap_alloc_new w _)
  have HC := Aside0.mk (h.go S0.out)
  have hok := forms_ok x.f0
  have hop := fun h => fm_op (op := x.f0) h
  have hFind := fun w => find_calls w x.f0
  obtain ⟨f, hf⟩ : ∃ f, f = fmF x.f0 := ⟨_, rfl⟩
  obtain ⟨pl, hpl⟩ : ∃ p, p = plF x.f0 := ⟨_, rfl⟩
  rw [← hf] at hok hop hFind
  rw [← hpl] at hop hFind
  have HFind := Aside0.mk (show ∀ w, Calls Try.prog 14 #[.string x.f0] w (fun e w' => e = .returned (.tuple #[.agg #[.string f.f0, .int .i64 f.f1, .int .i64 f.f2, .int .i64 f.f3, .int .i64 f.f4, .int .i64 f.f5, .int .i64 f.f6], .int .i64 pl]) ∧ Since w w') from hFind)
  have HOK := Aside0.mk hok
  have HOP := Aside0.mk hop
  have HF := Aside0.mk (And.intro hf hpl)
  simp only [formOk, Bool.and_eq_true, Bool.or_eq_true, decide_eq_true_eq] at hok
  obtain ⟨⟨⟨⟨⟨⟨⟨⟨⟨⟨⟨e1, e2⟩, e3⟩, e4⟩, e5⟩, e6⟩, e7⟩, e8⟩, e9⟩, e10⟩, e11⟩, e12⟩ := hok
  have NK := Aside0.mk (And.intro e1 (And.intro e2 (And.intro e3 (And.intro e4 e5))))
  have NE := Aside0.mk (And.intro e6 (And.intro e7 (And.intro e8 (And.intro e9 (And.intro e10 (And.intro e11 e12))))))
  rw [← hf] at q1 q2 q3 q4
  rw [← hpl] at q0
  have q0' : decide (pl < 0) = false := decide_eq_false (by omega)
  have hJ : insJ x jm = numJ f.f5 x.f3 (numJ f.f4 x.f2 (numJ f.f3 x.f1 jm)) := by rw [hf]; rfl
  rw [hJ]
  try rw [← hf]
  clear hJ
  have T1 := True.intro
  have T2 := True.intro
  have T3 := True.intro
  have Q1 := Aside0.mk q1
  have Q2 := Aside0.mk q2
  have Q3 := Aside0.mk q3
  have Q4 := Aside0.mk q4
  have Q0 := Aside0.mk q0
  have P3 := Aside0.mk (show f.f5 = 3 → isOp x.f0 [109, 97, 116, 99, 104] = false → 0 ≤ x.f1 ∧ x.f1 < 64 from fun h5 hm => by
    rcases NK.out.2.2.2.2 with (h | h) | h
    · exact absurd h5 h
    · rw [HOP.out (by omega)] at h
      exact absurd (show isOp x.f0 [109, 97, 116, 99, 104] = true from h) (by rw [hm]; decide)
    · have h3 : f.f3 = 5 := eq_of_beq h
      have hq := Q1.out
      rw [h3] at hq
      unfold numB at hq
      simpa using hq)
  have P6 := Aside0.mk (show f.f5 = 6 → 0 ≤ x.f2 ∧ x.f2 < ws.length from fun h5 => by
    rcases NE.out.1 with h | h
    · exact absurd h5 h
    · have h3 : f.f4 = 4 := eq_of_beq h
      have hq := Q2.out
      rw [h3] at hq
      unfold numB at hq
      simpa using hq)
  clear hV hf hpl h hFind hop e1 e2 e3 e4 e5 e6 e7 e8 e9 e10 e11 e12 q1 q2 q3 q4
  show Calls Try.prog 23 #[.pointer (some ⟨bw, 0, none⟩), .agg #[.string x.f0, .int .i64 x.f1, .int .i64 x.f2, .int .i64 x.f3, .string x.f4]] w _
  have k4 : f.f3 = 4 ∧ f.f4 = 4 := by
    rcases NE.out.2.2.2.2.2.1 with h | h
    · rw [HOP.out (by omega)] at h
      simp [o_merge] at h
    · exact ⟨eq_of_beq h.1, eq_of_beq h.2⟩
  have ha : 0 ≤ x.f1 ∧ x.f1 < ws.length := by
    have hq := Q1.out
    rw [k4.1] at hq
    unfold numB at hq
    simpa using hq
  have hb : 0 ≤ x.f2 ∧ x.f2 < ws.length := by
    have hq := Q2.out
    rw [k4.2] at hq
    unfold numB at hq
    simpa using hq
  obtain ⟨m, hm⟩ : ∃ m, m = ws.length := ⟨_, rfl⟩
  have HM := Aside0.mk hm
  have HWS := Aside0.mk (show ∀ w', Since w0 w' → Kd.C (Kd.int .i64) w' A0 m ws from fun w' hs => by rw [hm]; exact Kd.C_below HC.out.W hs.b)
  clear hm
  rw [← HM.out] at ha hb
  obtain ⟨ha1, ha2⟩ := ha
  obtain ⟨hb1, hb2⟩ := hb
  obtain ⟨r, hr⟩ : ∃ r, r = ws.getD x.f1.toNat 0 := ⟨_, rfl⟩
  obtain ⟨r', hr'⟩ : ∃ r, r = ws.getD x.f2.toNat 0 := ⟨_, rfl⟩
  rw [← hr, ← hr']
  have HR := Aside0.mk (And.intro hr hr')
  clear hr hr' k4
  go_enter Try.func23, Try.ntmps23
  go_wp2_with (first
      | (go_at_call 14; rw [← HV.out]; refine (HFind.out V).mono ?_; rintro e1 w1 ⟨rfl, hs1⟩; have S1 := Aside0.mk hs1; have BXa := Aside0.mk (blk_alloc (Cd.blk hs1.b HB.out) (.cells #[.string f.f0, .int .i64 f.f1, .int .i64 f.f2, .int .i64 f.f3, .int .i64 f.f4, .int .i64 f.f5, .int .i64 f.f6] 44)); have BFa := Aside0.mk (heap_alloc_new w1 (.cells #[.string f.f0, .int .i64 f.f1, .int .i64 f.f2, .int .i64 f.f3, .int .i64 f.f4, .int .i64 f.f5, .int .i64 f.f6] 44)); have C1 := Aside0.mk (HC.out.go (hs1.alloc (.cells #[.string f.f0, .int .i64 f.f1, .int .i64 f.f2, .int .i64 f.f3, .int .i64 f.f4, .int .i64 f.f5, .int .i64 f.f6] 44))); have xa0 : (w1.alloc (.cells #[.string f.f0, .int .i64 f.f1, .int .i64 f.f2, .int .i64 f.f3, .int .i64 f.f4, .int .i64 f.f5, .int .i64 f.f6] 44)).cell? ⟨w.heap.size, 0, none⟩ = some (.string x.f0) := (cell_of_heap BXa.out 0).trans rfl; have xa1 : (w1.alloc (.cells #[.string f.f0, .int .i64 f.f1, .int .i64 f.f2, .int .i64 f.f3, .int .i64 f.f4, .int .i64 f.f5, .int .i64 f.f6] 44)).cell? ⟨w.heap.size, 1, none⟩ = some (.int .i64 x.f1) := (cell_of_heap BXa.out 1).trans rfl; have xa2 : (w1.alloc (.cells #[.string f.f0, .int .i64 f.f1, .int .i64 f.f2, .int .i64 f.f3, .int .i64 f.f4, .int .i64 f.f5, .int .i64 f.f6] 44)).cell? ⟨w.heap.size, 2, none⟩ = some (.int .i64 x.f2) := (cell_of_heap BXa.out 2).trans rfl; have xa3 : (w1.alloc (.cells #[.string f.f0, .int .i64 f.f1, .int .i64 f.f2, .int .i64 f.f3, .int .i64 f.f4, .int .i64 f.f5, .int .i64 f.f6] 44)).cell? ⟨w.heap.size, 3, none⟩ = some (.int .i64 x.f3) := (cell_of_heap BXa.out 3).trans rfl; have xa4 : (w1.alloc (.cells #[.string f.f0, .int .i64 f.f1, .int .i64 f.f2, .int .i64 f.f3, .int .i64 f.f4, .int .i64 f.f5, .int .i64 f.f6] 44)).cell? ⟨w.heap.size, 4, none⟩ = some (.string x.f4) := (cell_of_heap BXa.out 4).trans rfl; have fa1 : (w1.alloc (.cells #[.string f.f0, .int .i64 f.f1, .int .i64 f.f2, .int .i64 f.f3, .int .i64 f.f4, .int .i64 f.f5, .int .i64 f.f6] 44)).cell? ⟨w1.heap.size, 1, none⟩ = some (.int .i64 f.f1) := (cell_of_heap BFa.out 1).trans rfl; have fa2 : (w1.alloc (.cells #[.string f.f0, .int .i64 f.f1, .int .i64 f.f2, .int .i64 f.f3, .int .i64 f.f4, .int .i64 f.f5, .int .i64 f.f6] 44)).cell? ⟨w1.heap.size, 2, none⟩ = some (.int .i64 f.f2) := (cell_of_heap BFa.out 2).trans rfl; have fa3 : (w1.alloc (.cells #[.string f.f0, .int .i64 f.f1, .int .i64 f.f2, .int .i64 f.f3, .int .i64 f.f4, .int .i64 f.f5, .int .i64 f.f6] 44)).cell? ⟨w1.heap.size, 3, none⟩ = some (.int .i64 f.f3) := (cell_of_heap BFa.out 3).trans rfl; have fa4 : (w1.alloc (.cells #[.string f.f0, .int .i64 f.f1, .int .i64 f.f2, .int .i64 f.f3, .int .i64 f.f4, .int .i64 f.f5, .int .i64 f.f6] 44)).cell? ⟨w1.heap.size, 4, none⟩ = some (.int .i64 f.f4) := (cell_of_heap BFa.out 4).trans rfl; have fa5 : (w1.alloc (.cells #[.string f.f0, .int .i64 f.f1, .int .i64 f.f2, .int .i64 f.f3, .int .i64 f.f4, .int .i64 f.f5, .int .i64 f.f6] 44)).cell? ⟨w1.heap.size, 5, none⟩ = some (.int .i64 f.f5) := (cell_of_heap BFa.out 5).trans rfl; have fa6 : (w1.alloc (.cells #[.string f.f0, .int .i64 f.f1, .int .i64 f.f2, .int .i64 f.f3, .int .i64 f.f4, .int .i64 f.f5, .int .i64 f.f6] 44)).cell? ⟨w1.heap.size, 6, none⟩ = some (.int .i64 f.f6) := (cell_of_heap BFa.out 6).trans rfl; clear hs1) 
      | (go_at_call 34; have htok := T1; have hN := number_calls C1.out (by omega) f.f3 x.f1 x hx (fun h => absurd h NK.out.1) (fun h => absurd h NK.out.2.1); rw [Q1.out] at hN; refine hN.mono ?_; clear T1 htok hN; rintro e2 w2 ⟨rfl, ⟨vj1, hc2⟩, hk2⟩; have C2 := Aside0.mk hc2; have K1 := Aside0.mk hk2; have BXb := Aside0.mk (hk2.same _ _ 39 (by decide) (by decide) (by decide) BXa.out); have BFb := Aside0.mk (hk2.same _ _ 44 (by decide) (by decide) (by decide) BFa.out); have xb0 : (w2).cell? ⟨w.heap.size, 0, none⟩ = some (.string x.f0) := (cell_of_heap BXb.out 0).trans rfl; have xb1 : (w2).cell? ⟨w.heap.size, 1, none⟩ = some (.int .i64 x.f1) := (cell_of_heap BXb.out 1).trans rfl; have xb2 : (w2).cell? ⟨w.heap.size, 2, none⟩ = some (.int .i64 x.f2) := (cell_of_heap BXb.out 2).trans rfl; have xb3 : (w2).cell? ⟨w.heap.size, 3, none⟩ = some (.int .i64 x.f3) := (cell_of_heap BXb.out 3).trans rfl; have xb4 : (w2).cell? ⟨w.heap.size, 4, none⟩ = some (.string x.f4) := (cell_of_heap BXb.out 4).trans rfl; have fb1 : (w2).cell? ⟨w1.heap.size, 1, none⟩ = some (.int .i64 f.f1) := (cell_of_heap BFb.out 1).trans rfl; have fb2 : (w2).cell? ⟨w1.heap.size, 2, none⟩ = some (.int .i64 f.f2) := (cell_of_heap BFb.out 2).trans rfl; have fb3 : (w2).cell? ⟨w1.heap.size, 3, none⟩ = some (.int .i64 f.f3) := (cell_of_heap BFb.out 3).trans rfl; have fb4 : (w2).cell? ⟨w1.heap.size, 4, none⟩ = some (.int .i64 f.f4) := (cell_of_heap BFb.out 4).trans rfl; have fb5 : (w2).cell? ⟨w1.heap.size, 5, none⟩ = some (.int .i64 f.f5) := (cell_of_heap BFb.out 5).trans rfl; have fb6 : (w2).cell? ⟨w1.heap.size, 6, none⟩ = some (.int .i64 f.f6) := (cell_of_heap BFb.out 6).trans rfl; clear hc2 hk2) 
      | (go_at_call 34; have htok := T2; have hN := number_calls C2.out (by have := numJ_len f.f3 x.f1 jm; omega) f.f4 x.f2 x hx (fun h => absurd h NK.out.2.2.1) (fun h => absurd h NK.out.2.2.2.1); rw [Q2.out] at hN; refine hN.mono ?_; clear T2 htok hN; rintro e2 w3 ⟨rfl, ⟨vj2, hc2⟩, hk2⟩; have C3 := Aside0.mk hc2; have K2 := Aside0.mk hk2; have BXc := Aside0.mk (hk2.same _ _ 39 (by decide) (by decide) (by decide) BXb.out); have BFc := Aside0.mk (hk2.same _ _ 44 (by decide) (by decide) (by decide) BFb.out); have xc0 : (w3).cell? ⟨w.heap.size, 0, none⟩ = some (.string x.f0) := (cell_of_heap BXc.out 0).trans rfl; have xc1 : (w3).cell? ⟨w.heap.size, 1, none⟩ = some (.int .i64 x.f1) := (cell_of_heap BXc.out 1).trans rfl; have xc2 : (w3).cell? ⟨w.heap.size, 2, none⟩ = some (.int .i64 x.f2) := (cell_of_heap BXc.out 2).trans rfl; have xc3 : (w3).cell? ⟨w.heap.size, 3, none⟩ = some (.int .i64 x.f3) := (cell_of_heap BXc.out 3).trans rfl; have xc4 : (w3).cell? ⟨w.heap.size, 4, none⟩ = some (.string x.f4) := (cell_of_heap BXc.out 4).trans rfl; have fc1 : (w3).cell? ⟨w1.heap.size, 1, none⟩ = some (.int .i64 f.f1) := (cell_of_heap BFc.out 1).trans rfl; have fc2 : (w3).cell? ⟨w1.heap.size, 2, none⟩ = some (.int .i64 f.f2) := (cell_of_heap BFc.out 2).trans rfl; have fc3 : (w3).cell? ⟨w1.heap.size, 3, none⟩ = some (.int .i64 f.f3) := (cell_of_heap BFc.out 3).trans rfl; have fc4 : (w3).cell? ⟨w1.heap.size, 4, none⟩ = some (.int .i64 f.f4) := (cell_of_heap BFc.out 4).trans rfl; have fc5 : (w3).cell? ⟨w1.heap.size, 5, none⟩ = some (.int .i64 f.f5) := (cell_of_heap BFc.out 5).trans rfl; have fc6 : (w3).cell? ⟨w1.heap.size, 6, none⟩ = some (.int .i64 f.f6) := (cell_of_heap BFc.out 6).trans rfl; clear hc2 hk2) 
      | (go_at_call 34; have htok := T3; have hN := number_calls C3.out (by have := numJ_len f.f3 x.f1 jm; have := numJ_len f.f4 x.f2 (numJ f.f3 x.f1 jm); omega) f.f5 x.f3 x hx P3.out P6.out; rw [Q3.out] at hN; refine hN.mono ?_; clear T3 htok hN; rintro e2 w4 ⟨rfl, ⟨vj3, hc2⟩, hk2⟩; have C4 := Aside0.mk hc2; have K3 := Aside0.mk hk2; have BXd := Aside0.mk (hk2.same _ _ 39 (by decide) (by decide) (by decide) BXc.out); have BFd := Aside0.mk (hk2.same _ _ 44 (by decide) (by decide) (by decide) BFc.out); have xd0 : (w4).cell? ⟨w.heap.size, 0, none⟩ = some (.string x.f0) := (cell_of_heap BXd.out 0).trans rfl; have xd1 : (w4).cell? ⟨w.heap.size, 1, none⟩ = some (.int .i64 x.f1) := (cell_of_heap BXd.out 1).trans rfl; have xd2 : (w4).cell? ⟨w.heap.size, 2, none⟩ = some (.int .i64 x.f2) := (cell_of_heap BXd.out 2).trans rfl; have xd3 : (w4).cell? ⟨w.heap.size, 3, none⟩ = some (.int .i64 x.f3) := (cell_of_heap BXd.out 3).trans rfl; have xd4 : (w4).cell? ⟨w.heap.size, 4, none⟩ = some (.string x.f4) := (cell_of_heap BXd.out 4).trans rfl; have fd1 : (w4).cell? ⟨w1.heap.size, 1, none⟩ = some (.int .i64 f.f1) := (cell_of_heap BFd.out 1).trans rfl; have fd2 : (w4).cell? ⟨w1.heap.size, 2, none⟩ = some (.int .i64 f.f2) := (cell_of_heap BFd.out 2).trans rfl; have fd3 : (w4).cell? ⟨w1.heap.size, 3, none⟩ = some (.int .i64 f.f3) := (cell_of_heap BFd.out 3).trans rfl; have fd4 : (w4).cell? ⟨w1.heap.size, 4, none⟩ = some (.int .i64 f.f4) := (cell_of_heap BFd.out 4).trans rfl; have fd5 : (w4).cell? ⟨w1.heap.size, 5, none⟩ = some (.int .i64 f.f5) := (cell_of_heap BFd.out 5).trans rfl; have fd6 : (w4).cell? ⟨w1.heap.size, 6, none⟩ = some (.int .i64 f.f6) := (cell_of_heap BFd.out 6).trans rfl; clear hc2 hk2) 
      | (go_at_call 35; have hT := texts_calls f.f6 x.f4 hx w4; rw [Q4.out] at hT; refine hT.mono ?_; clear hT; rintro e5 w5 ⟨rfl, hs5⟩; have S5 := Aside0.mk hs5; have C5 := Aside0.mk (C4.out.go hs5); have BXe := Aside0.mk (Cd.blk hs5.b BXd.out); have BFe := Aside0.mk (Cd.blk hs5.b BFd.out); have xe0 : (w5).cell? ⟨w.heap.size, 0, none⟩ = some (.string x.f0) := (cell_of_heap BXe.out 0).trans rfl; have xe1 : (w5).cell? ⟨w.heap.size, 1, none⟩ = some (.int .i64 x.f1) := (cell_of_heap BXe.out 1).trans rfl; have xe2 : (w5).cell? ⟨w.heap.size, 2, none⟩ = some (.int .i64 x.f2) := (cell_of_heap BXe.out 2).trans rfl; have xe3 : (w5).cell? ⟨w.heap.size, 3, none⟩ = some (.int .i64 x.f3) := (cell_of_heap BXe.out 3).trans rfl; have xe4 : (w5).cell? ⟨w.heap.size, 4, none⟩ = some (.string x.f4) := (cell_of_heap BXe.out 4).trans rfl; have fe1 : (w5).cell? ⟨w1.heap.size, 1, none⟩ = some (.int .i64 f.f1) := (cell_of_heap BFe.out 1).trans rfl; have fe2 : (w5).cell? ⟨w1.heap.size, 2, none⟩ = some (.int .i64 f.f2) := (cell_of_heap BFe.out 2).trans rfl; have fe3 : (w5).cell? ⟨w1.heap.size, 3, none⟩ = some (.int .i64 f.f3) := (cell_of_heap BFe.out 3).trans rfl; have fe4 : (w5).cell? ⟨w1.heap.size, 4, none⟩ = some (.int .i64 f.f4) := (cell_of_heap BFe.out 4).trans rfl; have fe5 : (w5).cell? ⟨w1.heap.size, 5, none⟩ = some (.int .i64 f.f5) := (cell_of_heap BFe.out 5).trans rfl; have fe6 : (w5).cell? ⟨w1.heap.size, 6, none⟩ = some (.int .i64 f.f6) := (cell_of_heap BFe.out 6).trans rfl; have c5 := C5.out.c; clear hs5))
  obtain ⟨ad, cs, hA, hl, hK, hcl⟩ := Kd.C_get (HWS.out _ C5.out.since) (0 : Int) x.f1 (by omega) (by omega)
  obtain ⟨ad2, cs2, hA2, hl2, hK2, hcl2⟩ := Kd.C_get (HWS.out _ C5.out.since) (0 : Int) x.f2 (by omega) (by omega)
  subst hA
  obtain rfl : ad = ad2 := Option.some.inj hA2
  rw [← HR.out.1] at hK
  rw [← HR.out.2] at hK2
  have hce : cs = [.int .i64 r] := hK
  have hce2 : cs2 = [.int .i64 r'] := hK2
  subst hce hce2
  have hcell : w5.cell? (ad.add x.f1.toNat) = some (.int .i64 r) := by simpa [Kd.int, Kd.scalar] using hcl 0 _ rfl
  have hcell2 : w5.cell? (ad.add x.f2.toNat) = some (.int .i64 r') := by simpa [Kd.int, Kd.scalar] using hcl2 0 _ rfl
  have c50 := C5.out.c.1
  rw [← HM.out] at c50
  clear hK hcl hl hK2 hcl2 hl2 c5 hA2
  go_region
  all_goals go_wp2_with fail
  all_goals exact bodyPost_ret (v := .tuple #[.int .i64 (0), .int .i64 (0), .bool (r == r')]) (by simp [results, Try.results23, go_sem]) rfl ⟨rfl, ⟨_, _, by omega, C5.out.go (Since.refl _).drew⟩, (((((KeptT.since (S0.out.trans (S1.out.alloc (.cells #[.string f.f0, .int .i64 f.f1, .int .i64 f.f2, .int .i64 f.f3, .int .i64 f.f4, .int .i64 f.f5, .int .i64 f.f6] 44)))).trans K1.out).trans K2.out).trans K3.out).trans (KeptT.since S5.out)).trans (KeptT.since (Since.refl _).drew)⟩

set_option maxHeartbeats 4000000 in
set_option maxRecDepth 100000 in
theorem instr_open (h : Ck w0 w bw bm A0 c0 ws rg A2 n2 c2 n D ve vj ev jm) (hj : jm.length ≤ 50000) (hn : n ≤ 50000) (x : S39) (hx : x.f4.size ≤ 9223372036854775800) (q0 : 0 ≤ plF x.f0) (q1 : numB ws rg D (fmF x.f0).f3 x.f1 x = true) (q2 : numB ws rg D (fmF x.f0).f4 x.f2 x = true) (q3 : numB ws rg D (fmF x.f0).f5 x.f3 x = true) (q4 : textB (fmF x.f0).f6 x.f4 = true) (o_con : (x.f0.toList == [99, 111, 110]) = false) (o_open : (x.f0.toList == [111, 112, 101, 110]) = true) (o_has : (x.f0.toList == [104, 97, 115]) = false) (o_not : (x.f0.toList == [110, 111, 116]) = false) (o_put : (x.f0.toList == [112, 117, 116]) = false) (o_swap : (x.f0.toList == [115, 119, 97, 112]) = false) (o_merge : (x.f0.toList == [109, 101, 114, 103, 101]) = false) :
    Calls Try.prog 23 #[.pointer (some ⟨bw, 0, none⟩), agI x] w (InsYes w0 w bw bm A0 c0 ws rg A2 n2 c2 n (D.put (kLit x.f1) (.lit (.int .i64 x.f2))) ve ev (insJ x jm) (onesC x.f3) ((fmF x.f0).f2) (true)) := by
  obtain ⟨V, hV⟩ : ∃ V, V = w.alloc (.cells #[.string x.f0, .int .i64 x.f1, .int .i64 x.f2, .int .i64 x.f3, .string x.f4] 39) := ⟨_, rfl⟩
  have S0 := Aside0.mk (show Since w V by rw [hV]; exact (Since.refl w).alloc _)
  have HV := Aside0.mk hV
  have HB := Aside0.mk (show V.heap[w.heap.size]? = some (.cells #[.string x.f0, .int .i64 x.f1, .int .i64 x.f2, .int .i64 x.f3, .string x.f4] 39 (0, 0)) by rw [hV]; exact heap_alloc_new w _)
  have HC := Aside0.mk (h.go S0.out)
  have hok := forms_ok x.f0
  have hop := fun h => fm_op (op := x.f0) h
  have hFind := fun w => find_calls w x.f0
  obtain ⟨f, hf⟩ : ∃ f, f = fmF x.f0 := ⟨_, rfl⟩
  obtain ⟨pl, hpl⟩ : ∃ p, p = plF x.f0 := ⟨_, rfl⟩
  rw [← hf] at hok hop hFind
  rw [← hpl] at hop hFind
  have HFind := Aside0.mk (show ∀ w, Calls Try.prog 14 #[.string x.f0] w (fun e w' => e = .returned (.tuple #[.agg #[.string f.f0, .int .i64 f.f1, .int .i64 f.f2, .int .i64 f.f3, .int .i64 f.f4, .int .i64 f.f5, .int .i64 f.f6], .int .i64 pl]) ∧ Since w w') from hFind)
  have HOK := Aside0.mk hok
  have HOP := Aside0.mk hop
  have HF := Aside0.mk (And.intro hf hpl)
  simp only [formOk, Bool.and_eq_true, Bool.or_eq_true, decide_eq_true_eq] at hok
  obtain ⟨⟨⟨⟨⟨⟨⟨⟨⟨⟨⟨e1, e2⟩, e3⟩, e4⟩, e5⟩, e6⟩, e7⟩, e8⟩, e9⟩, e10⟩, e11⟩, e12⟩ := hok
  have NK := Aside0.mk (And.intro e1 (And.intro e2 (And.intro e3 (And.intro e4 e5))))
  have NE := Aside0.mk (And.intro e6 (And.intro e7 (And.intro e8 (And.intro e9 (And.intro e10 (And.intro e11 e12))))))
  rw [← hf] at q1 q2 q3 q4
  rw [← hpl] at q0
  have q0' : decide (pl < 0) = false := decide_eq_false (by omega)
  have hJ : insJ x jm = numJ f.f5 x.f3 (numJ f.f4 x.f2 (numJ f.f3 x.f1 jm)) := by rw [hf]; rfl
  rw [hJ]
  try rw [← hf]
  clear hJ
  have T1 := True.intro
  have T2 := True.intro
  have T3 := True.intro
  have Q1 := Aside0.mk q1
  have Q2 := Aside0.mk q2
  have Q3 := Aside0.mk q3
  have Q4 := Aside0.mk q4
  have Q0 := Aside0.mk q0
  have P3 := Aside0.mk (show f.f5 = 3 → isOp x.f0 [109, 97, 116, 99, 104] = false → 0 ≤ x.f1 ∧ x.f1 < 64 from fun h5 hm => by
    rcases NK.out.2.2.2.2 with (h | h) | h
    · exact absurd h5 h
    · rw [HOP.out (by omega)] at h
      exact absurd (show isOp x.f0 [109, 97, 116, 99, 104] = true from h) (by rw [hm]; decide)
    · have h3 : f.f3 = 5 := eq_of_beq h
      have hq := Q1.out
      rw [h3] at hq
      unfold numB at hq
      simpa using hq)
  have P6 := Aside0.mk (show f.f5 = 6 → 0 ≤ x.f2 ∧ x.f2 < ws.length from fun h5 => by
    rcases NE.out.1 with h | h
    · exact absurd h5 h
    · have h3 : f.f4 = 4 := eq_of_beq h
      have hq := Q2.out
      rw [h3] at hq
      unfold numB at hq
      simpa using hq)
  clear hV hf hpl h hFind hop e1 e2 e3 e4 e5 e6 e7 e8 e9 e10 e11 e12 q1 q2 q3 q4
  show Calls Try.prog 23 #[.pointer (some ⟨bw, 0, none⟩), .agg #[.string x.f0, .int .i64 x.f1, .int .i64 x.f2, .int .i64 x.f3, .string x.f4]] w _
  have k4 : (f.f3 = 5 ∧ f.f4 = 4) ∧ f.f5 = 6 := by
    rcases NE.out.2.2.2.1 with h | h
    · rw [HOP.out (by omega)] at h
      simp [o_open] at h
    · exact ⟨⟨eq_of_beq h.1.1, eq_of_beq h.1.2⟩, eq_of_beq h.2⟩
  have ha : 0 ≤ x.f1 ∧ x.f1 < 64 := by
    have hq := Q1.out
    rw [k4.1.1] at hq
    unfold numB at hq
    simpa using hq
  have hb : 0 ≤ x.f2 ∧ x.f2 < ws.length := by
    have hq := Q2.out
    rw [k4.1.2] at hq
    unfold numB at hq
    simpa using hq
  have HB2 := Aside0.mk hb
  have hkey : keyOf Try.prog 3 (.int .i64 x.f1) = some (kLit x.f1) := keyOf_int_mk Try.underlying3 (WalkArith.wf_i64 (by omega))
  have hwf : (Lit.int .i64 x.f2).wf = true := WalkArith.wf_i64 (by have := HC.out.l128; omega)
  have HKK := Aside0.mk (And.intro hkey hwf)
  clear ha hb k4 hkey hwf
  go_enter Try.func23, Try.ntmps23
  go_wp2_with (first
      | (go_at_call 14; rw [← HV.out]; refine (HFind.out V).mono ?_; rintro e1 w1 ⟨rfl, hs1⟩; have S1 := Aside0.mk hs1; have BXa := Aside0.mk (blk_alloc (Cd.blk hs1.b HB.out) (.cells #[.string f.f0, .int .i64 f.f1, .int .i64 f.f2, .int .i64 f.f3, .int .i64 f.f4, .int .i64 f.f5, .int .i64 f.f6] 44)); have BFa := Aside0.mk (heap_alloc_new w1 (.cells #[.string f.f0, .int .i64 f.f1, .int .i64 f.f2, .int .i64 f.f3, .int .i64 f.f4, .int .i64 f.f5, .int .i64 f.f6] 44)); have C1 := Aside0.mk (HC.out.go (hs1.alloc (.cells #[.string f.f0, .int .i64 f.f1, .int .i64 f.f2, .int .i64 f.f3, .int .i64 f.f4, .int .i64 f.f5, .int .i64 f.f6] 44))); have xa0 : (w1.alloc (.cells #[.string f.f0, .int .i64 f.f1, .int .i64 f.f2, .int .i64 f.f3, .int .i64 f.f4, .int .i64 f.f5, .int .i64 f.f6] 44)).cell? ⟨w.heap.size, 0, none⟩ = some (.string x.f0) := (cell_of_heap BXa.out 0).trans rfl; have xa1 : (w1.alloc (.cells #[.string f.f0, .int .i64 f.f1, .int .i64 f.f2, .int .i64 f.f3, .int .i64 f.f4, .int .i64 f.f5, .int .i64 f.f6] 44)).cell? ⟨w.heap.size, 1, none⟩ = some (.int .i64 x.f1) := (cell_of_heap BXa.out 1).trans rfl; have xa2 : (w1.alloc (.cells #[.string f.f0, .int .i64 f.f1, .int .i64 f.f2, .int .i64 f.f3, .int .i64 f.f4, .int .i64 f.f5, .int .i64 f.f6] 44)).cell? ⟨w.heap.size, 2, none⟩ = some (.int .i64 x.f2) := (cell_of_heap BXa.out 2).trans rfl; have xa3 : (w1.alloc (.cells #[.string f.f0, .int .i64 f.f1, .int .i64 f.f2, .int .i64 f.f3, .int .i64 f.f4, .int .i64 f.f5, .int .i64 f.f6] 44)).cell? ⟨w.heap.size, 3, none⟩ = some (.int .i64 x.f3) := (cell_of_heap BXa.out 3).trans rfl; have xa4 : (w1.alloc (.cells #[.string f.f0, .int .i64 f.f1, .int .i64 f.f2, .int .i64 f.f3, .int .i64 f.f4, .int .i64 f.f5, .int .i64 f.f6] 44)).cell? ⟨w.heap.size, 4, none⟩ = some (.string x.f4) := (cell_of_heap BXa.out 4).trans rfl; have fa1 : (w1.alloc (.cells #[.string f.f0, .int .i64 f.f1, .int .i64 f.f2, .int .i64 f.f3, .int .i64 f.f4, .int .i64 f.f5, .int .i64 f.f6] 44)).cell? ⟨w1.heap.size, 1, none⟩ = some (.int .i64 f.f1) := (cell_of_heap BFa.out 1).trans rfl; have fa2 : (w1.alloc (.cells #[.string f.f0, .int .i64 f.f1, .int .i64 f.f2, .int .i64 f.f3, .int .i64 f.f4, .int .i64 f.f5, .int .i64 f.f6] 44)).cell? ⟨w1.heap.size, 2, none⟩ = some (.int .i64 f.f2) := (cell_of_heap BFa.out 2).trans rfl; have fa3 : (w1.alloc (.cells #[.string f.f0, .int .i64 f.f1, .int .i64 f.f2, .int .i64 f.f3, .int .i64 f.f4, .int .i64 f.f5, .int .i64 f.f6] 44)).cell? ⟨w1.heap.size, 3, none⟩ = some (.int .i64 f.f3) := (cell_of_heap BFa.out 3).trans rfl; have fa4 : (w1.alloc (.cells #[.string f.f0, .int .i64 f.f1, .int .i64 f.f2, .int .i64 f.f3, .int .i64 f.f4, .int .i64 f.f5, .int .i64 f.f6] 44)).cell? ⟨w1.heap.size, 4, none⟩ = some (.int .i64 f.f4) := (cell_of_heap BFa.out 4).trans rfl; have fa5 : (w1.alloc (.cells #[.string f.f0, .int .i64 f.f1, .int .i64 f.f2, .int .i64 f.f3, .int .i64 f.f4, .int .i64 f.f5, .int .i64 f.f6] 44)).cell? ⟨w1.heap.size, 5, none⟩ = some (.int .i64 f.f5) := (cell_of_heap BFa.out 5).trans rfl; have fa6 : (w1.alloc (.cells #[.string f.f0, .int .i64 f.f1, .int .i64 f.f2, .int .i64 f.f3, .int .i64 f.f4, .int .i64 f.f5, .int .i64 f.f6] 44)).cell? ⟨w1.heap.size, 6, none⟩ = some (.int .i64 f.f6) := (cell_of_heap BFa.out 6).trans rfl; clear hs1) 
      | (go_at_call 34; have htok := T1; have hN := number_calls C1.out (by omega) f.f3 x.f1 x hx (fun h => absurd h NK.out.1) (fun h => absurd h NK.out.2.1); rw [Q1.out] at hN; refine hN.mono ?_; clear T1 htok hN; rintro e2 w2 ⟨rfl, ⟨vj1, hc2⟩, hk2⟩; have C2 := Aside0.mk hc2; have K1 := Aside0.mk hk2; have BXb := Aside0.mk (hk2.same _ _ 39 (by decide) (by decide) (by decide) BXa.out); have BFb := Aside0.mk (hk2.same _ _ 44 (by decide) (by decide) (by decide) BFa.out); have xb0 : (w2).cell? ⟨w.heap.size, 0, none⟩ = some (.string x.f0) := (cell_of_heap BXb.out 0).trans rfl; have xb1 : (w2).cell? ⟨w.heap.size, 1, none⟩ = some (.int .i64 x.f1) := (cell_of_heap BXb.out 1).trans rfl; have xb2 : (w2).cell? ⟨w.heap.size, 2, none⟩ = some (.int .i64 x.f2) := (cell_of_heap BXb.out 2).trans rfl; have xb3 : (w2).cell? ⟨w.heap.size, 3, none⟩ = some (.int .i64 x.f3) := (cell_of_heap BXb.out 3).trans rfl; have xb4 : (w2).cell? ⟨w.heap.size, 4, none⟩ = some (.string x.f4) := (cell_of_heap BXb.out 4).trans rfl; have fb1 : (w2).cell? ⟨w1.heap.size, 1, none⟩ = some (.int .i64 f.f1) := (cell_of_heap BFb.out 1).trans rfl; have fb2 : (w2).cell? ⟨w1.heap.size, 2, none⟩ = some (.int .i64 f.f2) := (cell_of_heap BFb.out 2).trans rfl; have fb3 : (w2).cell? ⟨w1.heap.size, 3, none⟩ = some (.int .i64 f.f3) := (cell_of_heap BFb.out 3).trans rfl; have fb4 : (w2).cell? ⟨w1.heap.size, 4, none⟩ = some (.int .i64 f.f4) := (cell_of_heap BFb.out 4).trans rfl; have fb5 : (w2).cell? ⟨w1.heap.size, 5, none⟩ = some (.int .i64 f.f5) := (cell_of_heap BFb.out 5).trans rfl; have fb6 : (w2).cell? ⟨w1.heap.size, 6, none⟩ = some (.int .i64 f.f6) := (cell_of_heap BFb.out 6).trans rfl; clear hc2 hk2) 
      | (go_at_call 34; have htok := T2; have hN := number_calls C2.out (by have := numJ_len f.f3 x.f1 jm; omega) f.f4 x.f2 x hx (fun h => absurd h NK.out.2.2.1) (fun h => absurd h NK.out.2.2.2.1); rw [Q2.out] at hN; refine hN.mono ?_; clear T2 htok hN; rintro e2 w3 ⟨rfl, ⟨vj2, hc2⟩, hk2⟩; have C3 := Aside0.mk hc2; have K2 := Aside0.mk hk2; have BXc := Aside0.mk (hk2.same _ _ 39 (by decide) (by decide) (by decide) BXb.out); have BFc := Aside0.mk (hk2.same _ _ 44 (by decide) (by decide) (by decide) BFb.out); have xc0 : (w3).cell? ⟨w.heap.size, 0, none⟩ = some (.string x.f0) := (cell_of_heap BXc.out 0).trans rfl; have xc1 : (w3).cell? ⟨w.heap.size, 1, none⟩ = some (.int .i64 x.f1) := (cell_of_heap BXc.out 1).trans rfl; have xc2 : (w3).cell? ⟨w.heap.size, 2, none⟩ = some (.int .i64 x.f2) := (cell_of_heap BXc.out 2).trans rfl; have xc3 : (w3).cell? ⟨w.heap.size, 3, none⟩ = some (.int .i64 x.f3) := (cell_of_heap BXc.out 3).trans rfl; have xc4 : (w3).cell? ⟨w.heap.size, 4, none⟩ = some (.string x.f4) := (cell_of_heap BXc.out 4).trans rfl; have fc1 : (w3).cell? ⟨w1.heap.size, 1, none⟩ = some (.int .i64 f.f1) := (cell_of_heap BFc.out 1).trans rfl; have fc2 : (w3).cell? ⟨w1.heap.size, 2, none⟩ = some (.int .i64 f.f2) := (cell_of_heap BFc.out 2).trans rfl; have fc3 : (w3).cell? ⟨w1.heap.size, 3, none⟩ = some (.int .i64 f.f3) := (cell_of_heap BFc.out 3).trans rfl; have fc4 : (w3).cell? ⟨w1.heap.size, 4, none⟩ = some (.int .i64 f.f4) := (cell_of_heap BFc.out 4).trans rfl; have fc5 : (w3).cell? ⟨w1.heap.size, 5, none⟩ = some (.int .i64 f.f5) := (cell_of_heap BFc.out 5).trans rfl; have fc6 : (w3).cell? ⟨w1.heap.size, 6, none⟩ = some (.int .i64 f.f6) := (cell_of_heap BFc.out 6).trans rfl; clear hc2 hk2) 
      | (go_at_call 34; have htok := T3; have hN := number_calls C3.out (by have := numJ_len f.f3 x.f1 jm; have := numJ_len f.f4 x.f2 (numJ f.f3 x.f1 jm); omega) f.f5 x.f3 x hx P3.out P6.out; rw [Q3.out] at hN; refine hN.mono ?_; clear T3 htok hN; rintro e2 w4 ⟨rfl, ⟨vj3, hc2⟩, hk2⟩; have C4 := Aside0.mk hc2; have K3 := Aside0.mk hk2; have BXd := Aside0.mk (hk2.same _ _ 39 (by decide) (by decide) (by decide) BXc.out); have BFd := Aside0.mk (hk2.same _ _ 44 (by decide) (by decide) (by decide) BFc.out); have xd0 : (w4).cell? ⟨w.heap.size, 0, none⟩ = some (.string x.f0) := (cell_of_heap BXd.out 0).trans rfl; have xd1 : (w4).cell? ⟨w.heap.size, 1, none⟩ = some (.int .i64 x.f1) := (cell_of_heap BXd.out 1).trans rfl; have xd2 : (w4).cell? ⟨w.heap.size, 2, none⟩ = some (.int .i64 x.f2) := (cell_of_heap BXd.out 2).trans rfl; have xd3 : (w4).cell? ⟨w.heap.size, 3, none⟩ = some (.int .i64 x.f3) := (cell_of_heap BXd.out 3).trans rfl; have xd4 : (w4).cell? ⟨w.heap.size, 4, none⟩ = some (.string x.f4) := (cell_of_heap BXd.out 4).trans rfl; have fd1 : (w4).cell? ⟨w1.heap.size, 1, none⟩ = some (.int .i64 f.f1) := (cell_of_heap BFd.out 1).trans rfl; have fd2 : (w4).cell? ⟨w1.heap.size, 2, none⟩ = some (.int .i64 f.f2) := (cell_of_heap BFd.out 2).trans rfl; have fd3 : (w4).cell? ⟨w1.heap.size, 3, none⟩ = some (.int .i64 f.f3) := (cell_of_heap BFd.out 3).trans rfl; have fd4 : (w4).cell? ⟨w1.heap.size, 4, none⟩ = some (.int .i64 f.f4) := (cell_of_heap BFd.out 4).trans rfl; have fd5 : (w4).cell? ⟨w1.heap.size, 5, none⟩ = some (.int .i64 f.f5) := (cell_of_heap BFd.out 5).trans rfl; have fd6 : (w4).cell? ⟨w1.heap.size, 6, none⟩ = some (.int .i64 f.f6) := (cell_of_heap BFd.out 6).trans rfl; clear hc2 hk2) 
      | (go_at_call 35; have hT := texts_calls f.f6 x.f4 hx w4; rw [Q4.out] at hT; refine hT.mono ?_; clear hT; rintro e5 w5 ⟨rfl, hs5⟩; have S5 := Aside0.mk hs5; have C5 := Aside0.mk (C4.out.go hs5); have BXe := Aside0.mk (Cd.blk hs5.b BXd.out); have BFe := Aside0.mk (Cd.blk hs5.b BFd.out); have xe0 : (w5).cell? ⟨w.heap.size, 0, none⟩ = some (.string x.f0) := (cell_of_heap BXe.out 0).trans rfl; have xe1 : (w5).cell? ⟨w.heap.size, 1, none⟩ = some (.int .i64 x.f1) := (cell_of_heap BXe.out 1).trans rfl; have xe2 : (w5).cell? ⟨w.heap.size, 2, none⟩ = some (.int .i64 x.f2) := (cell_of_heap BXe.out 2).trans rfl; have xe3 : (w5).cell? ⟨w.heap.size, 3, none⟩ = some (.int .i64 x.f3) := (cell_of_heap BXe.out 3).trans rfl; have xe4 : (w5).cell? ⟨w.heap.size, 4, none⟩ = some (.string x.f4) := (cell_of_heap BXe.out 4).trans rfl; have fe1 : (w5).cell? ⟨w1.heap.size, 1, none⟩ = some (.int .i64 f.f1) := (cell_of_heap BFe.out 1).trans rfl; have fe2 : (w5).cell? ⟨w1.heap.size, 2, none⟩ = some (.int .i64 f.f2) := (cell_of_heap BFe.out 2).trans rfl; have fe3 : (w5).cell? ⟨w1.heap.size, 3, none⟩ = some (.int .i64 f.f3) := (cell_of_heap BFe.out 3).trans rfl; have fe4 : (w5).cell? ⟨w1.heap.size, 4, none⟩ = some (.int .i64 f.f4) := (cell_of_heap BFe.out 4).trans rfl; have fe5 : (w5).cell? ⟨w1.heap.size, 5, none⟩ = some (.int .i64 f.f5) := (cell_of_heap BFe.out 5).trans rfl; have fe6 : (w5).cell? ⟨w1.heap.size, 6, none⟩ = some (.int .i64 f.f6) := (cell_of_heap BFe.out 6).trans rfl; have c5 := C5.out.c; clear hs5)
      | (go_at_call 36; refine (bits_OnesCount.calls _ (onesC x.f3) _ (onesC_is x.f3)).mono ?_; rintro e6 w6 ⟨rfl, hd6⟩; have S6 := Aside0.mk (Since.ofDrawn hd6); have C6 := Aside0.mk (C5.out.go S6.out); have BXf := Aside0.mk (Cd.blk S6.out.b BXe.out); have BFf := Aside0.mk (Cd.blk S6.out.b BFe.out); have xf0 : (w6).cell? ⟨w.heap.size, 0, none⟩ = some (.string x.f0) := (cell_of_heap BXf.out 0).trans rfl; have xf1 : (w6).cell? ⟨w.heap.size, 1, none⟩ = some (.int .i64 x.f1) := (cell_of_heap BXf.out 1).trans rfl; have xf2 : (w6).cell? ⟨w.heap.size, 2, none⟩ = some (.int .i64 x.f2) := (cell_of_heap BXf.out 2).trans rfl; have xf3 : (w6).cell? ⟨w.heap.size, 3, none⟩ = some (.int .i64 x.f3) := (cell_of_heap BXf.out 3).trans rfl; have xf4 : (w6).cell? ⟨w.heap.size, 4, none⟩ = some (.string x.f4) := (cell_of_heap BXf.out 4).trans rfl; have ff1 : (w6).cell? ⟨w1.heap.size, 1, none⟩ = some (.int .i64 f.f1) := (cell_of_heap BFf.out 1).trans rfl; have ff2 : (w6).cell? ⟨w1.heap.size, 2, none⟩ = some (.int .i64 f.f2) := (cell_of_heap BFf.out 2).trans rfl; have ff3 : (w6).cell? ⟨w1.heap.size, 3, none⟩ = some (.int .i64 f.f3) := (cell_of_heap BFf.out 3).trans rfl; have ff4 : (w6).cell? ⟨w1.heap.size, 4, none⟩ = some (.int .i64 f.f4) := (cell_of_heap BFf.out 4).trans rfl; have ff5 : (w6).cell? ⟨w1.heap.size, 5, none⟩ = some (.int .i64 f.f5) := (cell_of_heap BFf.out 5).trans rfl; have ff6 : (w6).cell? ⟨w1.heap.size, 6, none⟩ = some (.int .i64 f.f6) := (cell_of_heap BFf.out 6).trans rfl; have c6 := C6.out.c; clear hd6 c5))
  obtain ⟨w7, hrun7, hown7, hg7⟩ := (C6.out.go (Since.refl w6).drew).map.update lawK Try.underlying60 (by unfold maxLen; omega) HKK.out.1 (plainElem_int (a := x.f2) Try.underlying3 HKK.out.2)
  have C7 := Aside0.mk ((C6.out.go (Since.refl w6).drew).slot hg7 HB2.out hown7)
  have BXg := Aside0.mk (C7.out.2.same _ _ 39 (by decide) (by decide) (by decide) BXf.out)
  have BFg := Aside0.mk (C7.out.2.same _ _ 44 (by decide) (by decide) (by decide) BFf.out)
  have g2 : w7.cell? ⟨w1.heap.size, 2, none⟩ = some (.int .i64 f.f2) := (cell_of_heap BFg.out 2).trans rfl
  clear hown7 hg7
  go_region
  all_goals go_wp2_with fail
  all_goals go_region
  all_goals go_wp2_with fail
  all_goals exact bodyPost_ret (v := .tuple #[.int .i64 (onesC x.f3), .int .i64 f.f2, .bool true]) (by simp [results, Try.results23, go_sem]) rfl ⟨rfl, ⟨_, _, Nat.le_refl _, C7.out.1.go (Since.refl _).drew⟩, (((((((KeptT.since (S0.out.trans (S1.out.alloc (.cells #[.string f.f0, .int .i64 f.f1, .int .i64 f.f2, .int .i64 f.f3, .int .i64 f.f4, .int .i64 f.f5, .int .i64 f.f6] 44)))).trans K1.out).trans K2.out).trans K3.out).trans (KeptT.since S5.out)).trans (KeptT.since S6.out)).trans (KeptT.since (Since.refl w6).drew)).trans (C7.out.2.trans (KeptT.since (Since.refl _).drew))⟩

end
end Go.Proofs.Ytdecgknnbegobaa.Cd
