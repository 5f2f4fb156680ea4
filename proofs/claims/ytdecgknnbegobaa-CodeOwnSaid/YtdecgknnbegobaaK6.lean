/- Decode's deferred closure: its two contracts. Decode: the walk. Encode, Decode: what they are to one another. When two programs are the same: the program's answer and the document's. alive. How the laws' arguments are opened: a program; a row of bytes. -/
import Derived.Test.YtdecgknnbegobaaK4
import Derived.Defers
import Derived.Recover
import Derived.Test.YtdecgknnbegobaaK5
import Derived.Test.YtdecgknnbegobaaK3
import Derived.ProofKit
import Derived.OpenShut
import Derived.ChangeOld
import Derived.ChangeMaps5
import Derived.Lib.SmallJoins
import Derived.Laws.IdiomArrays
import Derived.Deep.Slices
import Derived.Deep.Strs
import Derived.SizedLaws
import Derived.Test.YtdecgknnbegobaaWSized
namespace Go.Proofs.Ytdecgknnbegobaa.Cd
open Go.RowKit Go.Lib Go.Maps Go.Proofs.Ytdecgknnbegobaa.D Go.Proofs.YtdecgknnbegobaaW.PrintWords Go.Proofs.YtdecgknnbegobaaW.PrintLast Go.Proofs.YtdecgknnbegobaaW.PrintMore
set_option linter.unusedVariables false
set_option linter.unusedSimpArgs false

/-- What the deferred closure writes where a wrong byte ended the reading. -/
def decW (w : World) (b2 b3 : Nat) (q : Nat) : World :=
  (((((w.setCell ⟨b2, 0, none⟩ (.slice none 0 0)).setCell ⟨b2, 1, none⟩ (.int .i64 0)).setCell ⟨b2, 2, none⟩ (.slice none 0 0)).setCell ⟨b3, 0, none⟩ (.int .i64 21)).setCell ⟨b3, 1, none⟩ (.int .i64 (q : Int))).alloc (.cells #[] 52)

theorem is_wrong (w : World) : (Instr.typeAssert (.iface 52 (.agg #[])) 20 52 true).run Try.prog w = .ok (.tuple #[.agg #[], .bool true]) w := by kernel_rfl
theorem not_wrong (w : World) : (Instr.typeAssert .nilIface 20 52 true).run Try.prog w = .ok (.tuple #[.agg #[], .bool false]) w := by kernel_rfl
theorem neq_wrong (w : World) : (binOp .neq 20 (.iface 52 (.agg #[])) .nilIface).run Try.prog w = .ok (.bool true) w := by kernel_rfl
theorem neq_nil (w : World) : (binOp .neq 20 .nilIface .nilIface).run Try.prog w = .ok (.bool false) w := by kernel_rfl
set_option maxHeartbeats 4000000 in
set_option maxRecDepth 100000 in
theorem dec_panics {w : World} {b4 b2 b3 br : Nat} {A : Option Addr} {c n q : Nat} (older : List PanicEntry)
    (h4 : w.heap[b4]? = some (.cells #[.pointer (some ⟨br, 0, none⟩)] 48 (0, 0)))
    (hr : w.heap[br]? = some (.cells #[.slice A n c, .int .i64 (q : Int)] 50 (0, 0))) {v0 v1 v2 u0 u1 : Value}
    (h2 : w.heap[b2]? = some (.cells #[v0, v1, v2] 25 (0, 0))) (h3 : w.heap[b3]? = some (.cells #[u0, u1] 31 (0, 0))) (hne : b2 ≠ b3) :
    CallsD Try.prog 16 #[.pointer (some ⟨b4, 0, none⟩), .pointer (some ⟨b2, 0, none⟩), .pointer (some ⟨b3, 0, none⟩)] (.panicking ({ v := .iface 52 (.agg #[]), recovered := false } :: older)) w fun e u' w' =>
      e = .returned (.tuple #[]) ∧ u' = .panicking ({ v := .iface 52 (.agg #[]), recovered := true } :: older) ∧ w' = decW w b2 b3 q := by
  refine callsD_of_wpS Try.func16 rfl fun c₀ cs hu => ?_
  apply wpS_seq
  apply wpS_region
  simp [wpOpsS, go_sem, recoverD, hu, Try.ntmps16, Exit.thenS, Array.replicate, List.replicate]
  have hq := (cell_of_heap h4 0).trans (rfl : _ = some (Value.pointer (some ⟨br, 0, none⟩)))
  have hq1 := (cell_of_heap hr 1).trans (rfl : _ = some (Value.int .i64 (q : Int)))
  have hlt4 := (Array.getElem?_eq_some_iff.1 h4).1
  have hltr := (Array.getElem?_eq_some_iff.1 hr).1
  have hlt2 := (Array.getElem?_eq_some_iff.1 h2).1
  have hlt3 := (Array.getElem?_eq_some_iff.1 h3).1
  have z0 : w.cell? ⟨b2, 0, none⟩ = some v0 := (cell_of_heap h2 0).trans rfl
  have z1 : w.cell? ⟨b2, 1, none⟩ = some v1 := (cell_of_heap h2 1).trans rfl
  have z2 : w.cell? ⟨b2, 2, none⟩ = some v2 := (cell_of_heap h2 2).trans rfl
  have z3 : w.cell? ⟨b3, 0, none⟩ = some u0 := (cell_of_heap h3 0).trans rfl
  have z4 : w.cell? ⟨b3, 1, none⟩ = some u1 := (cell_of_heap h3 1).trans rfl
  have y0 := free_of_heap h2 0
  have y1 := free_of_heap h2 1
  have y2 := free_of_heap h2 2
  have y3 := free_of_heap h3 0
  have y4 := free_of_heap h3 1
  have hne1 : ¬ b2 = b3 := hne
  have hne2 : ¬ b3 = b2 := fun e => hne e.symm
  have k1 := is_wrong
  have k2 := neq_wrong
  refine wpS_of_wp ?_
  have HU := Aside0.mk hu
  clear hu
  go_wp2_with fail
  have hu := HU.out
  cases c₀
  simp_all [bodyPostS, results, Try.results16, decW]

set_option maxHeartbeats 4000000 in
set_option maxRecDepth 100000 in
theorem dec_idle (w : World) (p1 p2 p3 : Value) :
    CallsD Try.prog 16 #[p1, p2, p3] .returning w fun e u' w' => e = .returned (.tuple #[]) ∧ u' = .returning ∧ w' = w.alloc (.cells #[] 52) := by
  refine callsD_of_wpS Try.func16 rfl fun c₀ cs hu => ?_
  apply wpS_seq
  apply wpS_region
  simp [wpOpsS, go_sem, recoverD, hu, Try.ntmps16, Exit.thenS, Array.replicate, List.replicate]
  have k1 := not_wrong
  have k2 := neq_nil
  refine wpS_of_wp ?_
  have HU := Aside0.mk hu
  clear hu
  go_wp2_with fail
  have hu := HU.out
  cases c₀
  simp_all [bodyPostS, results, Try.results16]

end Go.Proofs.Ytdecgknnbegobaa.Cd

namespace Go.Proofs.Ytdecgknnbegobaa.Cd
open Go.RowKit Go.Lib Go.Maps Go.Proofs.Ytdecgknnbegobaa.D Go.Proofs.YtdecgknnbegobaaW.PrintWords Go.Proofs.YtdecgknnbegobaaW.PrintLast Go.Proofs.YtdecgknnbegobaaW.PrintMore
set_option linter.unusedVariables false
set_option linter.unusedSimpArgs false

theorem reps39 (w : World) (base : Nat) (ok : Nat → Prop) : ∀ xs : List S39, Reps (k39.M w base ok) 5 xs (xs.flatMap cells39)
  | [] => Reps.none _ _
  | x :: xs => by
    have h1 : Reps (k39.M w base ok) 5 [x] (cells39 x) := by
      have := (Reps.none (k39.M w base ok) 5).snoc (k39_mkM w base ok x) rfl
      exact this
    have := Kd.reps_append h1 (reps39 w base ok xs)
    simpa using this
theorem own39_R {w : World} {base : Nat} {v : Value} {xs : List S39} (h : w.ownsRow base 39 5 v xs.length (xs.flatMap cells39)) : Kd.R k39 39 w base (fun _ => True) v xs :=
  ⟨fun _ _ => trivial, _, h, reps39 w base _ xs⟩
theorem own39_C {w : World} {base : Nat} {v : Value} {xs : List S39} (h : w.ownsRow base 39 5 v xs.length (xs.flatMap cells39)) : ∃ A c, v = .slice A xs.length c ∧ xs.length ≤ c ∧ Kd.C k39 w A xs.length xs := Kd.R_reads (own39_R h)
theorem own3_Sl {w : World} {base : Nat} {v : Value} {ws : List Int} (h : w.ownsRow base 3 1 v ws.length (ws.map (Value.int .i64))) : ∃ A c, v = .slice A ws.length c ∧ Sl w A c ws := by
  obtain ⟨A, c, hv, hl, hC⟩ := Kd.R_reads (Kd.R_of_own (enc := Value.int .i64) (h1 := fun _ => rfl) (ok := fun _ => True) h (fun _ _ => trivial))
  exact ⟨A, c, hv, hC, hl⟩
/-- What Decode finds. -/
def decP (B : List Int) : Rs (List Int × Int × List S39) := match rdP B 0 with
  | .bad q => .bad q
  | .ok (ws, rg, xs) q => if q < B.length ∨ chkB ws rg xs = false then .bad q else .ok (ws, rg, xs) q
/-- What a call of Decode answers. -/
def DecEnd (W : World) (r : Rs (List Int × Int × List S39)) (e : Ending) (w' : World) : Prop := Since W w' ∧ match r with
  | .bad q => e = .returned (.tuple #[.agg #[.slice none 0 0, .int .i64 0, .slice none 0 0], .agg #[.int .i64 21, .int .i64 (q : Int)]])
  | .ok (ws, rg, xs) _ => ∃ vW vI, e = .returned (.tuple #[.agg #[vW, .int .i64 rg, vI], .agg #[.int .i64 0, .int .i64 0]]) ∧ w'.ownsRow W.heap.size 3 1 vW ws.length (ws.map (Value.int .i64)) ∧ w'.ownsRow W.heap.size 39 5 vI xs.length (xs.flatMap cells39)

/-- The world in which Decode's variables lie. -/
structure Dv (W w : World) (A : Option Addr) (n c : Nat) (v0 v1 v2 : Value) (at' : Int) : Prop where
  since : Since W w
  h2 : w.heap[W.heap.size]? = some (.cells #[v0, v1, v2] 25 (0, 0))
  h3 : w.heap[W.heap.size + 1]? = some (.cells #[.int .i64 0, .int .i64 0] 31 (0, 0))
  hr : w.heap[W.heap.size + 1 + 1]? = some (.cells #[.slice A n c, .int .i64 at'] 50 (0, 0))
  h4 : w.heap[W.heap.size + 1 + 1 + 1]? = some (.cells #[.pointer (some ⟨W.heap.size + 1 + 1, 0, none⟩)] 48 (0, 0))
def decV (W : World) (A : Option Addr) (n c : Nat) : World :=
  (((W.alloc (.cells #[.slice none 0 0, .int .i64 0, .slice none 0 0] 25)).alloc (.cells #[.int .i64 0, .int .i64 0] 31)).alloc (.cells #[.slice A n c, .int .i64 0] 50)).alloc (.cells #[.pointer (some ⟨W.heap.size + 1 + 1, 0, none⟩)] 48)
theorem dv_begin (W : World) (A : Option Addr) (n c : Nat) : Dv W (decV W A n c) A n c (.slice none 0 0) (.int .i64 0) (.slice none 0 0) 0 := by
  unfold decV
  refine ⟨((((Since.refl W).alloc _).alloc _).alloc _).alloc _, ?_, ?_, ?_, ?_⟩
  · rw [Below.heap_alloc _ _ _ (by simp only [World.size_alloc]; omega), Below.heap_alloc _ _ _ (by simp only [World.size_alloc]; omega), Below.heap_alloc _ _ _ (by simp)]
    exact heap_alloc_new W _
  · rw [Below.heap_alloc _ _ _ (by simp only [World.size_alloc]; omega), Below.heap_alloc _ _ _ (by simp)]
    have := heap_alloc_new (W.alloc (.cells #[.slice none 0 0, .int .i64 0, .slice none 0 0] 25)) (.cells #[.int .i64 0, .int .i64 0] 31)
    rw [World.size_alloc] at this
    exact this
  · rw [Below.heap_alloc _ _ _ (by simp)]
    have := heap_alloc_new ((W.alloc (.cells #[.slice none 0 0, .int .i64 0, .slice none 0 0] 25)).alloc (.cells #[.int .i64 0, .int .i64 0] 31)) (.cells #[.slice A n c, .int .i64 0] 50)
    rw [World.size_alloc, World.size_alloc] at this
    exact this
  · have := heap_alloc_new (((W.alloc (.cells #[.slice none 0 0, .int .i64 0, .slice none 0 0] 25)).alloc (.cells #[.int .i64 0, .int .i64 0] 31)).alloc (.cells #[.slice A n c, .int .i64 0] 50)) (.cells #[.pointer (some ⟨W.heap.size + 1 + 1, 0, none⟩)] 48)
    rw [World.size_alloc, World.size_alloc, World.size_alloc] at this
    exact this
theorem Dv.kept {W w w' : World} {A : Option Addr} {n c : Nat} {v0 v1 v2 : Value} {p q : Int} (h : Dv W w A n c v0 v1 v2 p) (hs : Since W w') (hk : Kept w w' (fun k => k = W.heap.size + 1 + 1)) (hr : w'.heap[W.heap.size + 1 + 1]? = some (.cells #[.slice A n c, .int .i64 q] 50 (0, 0))) : Dv W w' A n c v0 v1 v2 q :=
  ⟨hs, Kept.block hk h.h2 (by omega), Kept.block hk h.h3 (by omega), hr, Kept.block hk h.h4 (by omega)⟩
theorem Dv.step {W w w' : World} {A : Option Addr} {n c : Nat} {v0 v1 v2 : Value} {p : Int} (h : Dv W w A n c v0 v1 v2 p) (hs : Since w w') : Dv W w' A n c v0 v1 v2 p :=
  ⟨h.since.trans hs, Cd.blk hs.b h.h2, Cd.blk hs.b h.h3, Cd.blk hs.b h.hr, Cd.blk hs.b h.h4⟩
/-- Behind the deferred closure. -/
theorem decW_at {W w : World} {A : Option Addr} {n c q : Nat} {v0 v1 v2 : Value} {p : Int} (h : Dv W w A n c v0 v1 v2 p) : Since W (decW w W.heap.size (W.heap.size + 1) q) ∧ (decW w W.heap.size (W.heap.size + 1) q).heap[W.heap.size]? = some (.cells #[.slice none 0 0, .int .i64 0, .slice none 0 0] 25 (0, 0)) ∧ (decW w W.heap.size (W.heap.size + 1) q).heap[W.heap.size + 1]? = some (.cells #[.int .i64 21, .int .i64 (q : Int)] 31 (0, 0)) := by
  have h1 := Go.Joins.block_setCell (i := 0) h.h2 (.slice none 0 0)
  have h2 := Go.Joins.block_setCell (i := 1) h1 (.int .i64 0)
  have h3 := Go.Joins.block_setCell (i := 2) h2 (.slice none 0 0)
  have g0 : (((w.setCell ⟨W.heap.size, 0, none⟩ (.slice none 0 0)).setCell ⟨W.heap.size, 1, none⟩ (.int .i64 0)).setCell ⟨W.heap.size, 2, none⟩ (.slice none 0 0)).heap[W.heap.size + 1]? = some (.cells #[.int .i64 0, .int .i64 0] 31 (0, 0)) := by
    rw [Below.heap_setCell _ _ _ _ (by simp), Below.heap_setCell _ _ _ _ (by simp), Below.heap_setCell _ _ _ _ (by simp)]
    exact h.h3
  have g1 := Go.Joins.block_setCell (i := 0) g0 (.int .i64 21)
  have g2 := Go.Joins.block_setCell (i := 1) g1 (.int .i64 (q : Int))
  have l2 := (Array.getElem?_eq_some_iff.1 h.h2).1
  have l3 := (Array.getElem?_eq_some_iff.1 h.h3).1
  unfold decW
  refine ⟨?_, ?_, ?_⟩
  · exact (((((h.since.set (by simp) _).set (by simp) _).set (by simp) _).set (by simp) _).set (by simp) _).alloc _
  · rw [Below.heap_alloc _ _ _ (by simp; omega), Below.heap_setCell _ _ _ _ (by simp), Below.heap_setCell _ _ _ _ (by simp)]
    exact h3
  · rw [Below.heap_alloc _ _ _ (by simp; omega)]
    exact g2

set_option maxHeartbeats 4000000 in
set_option maxRecDepth 100000 in
theorem decode_bad (W : World) {A : Option Addr} {c : Nat} {B : List Int} (hB : Bs W A c B) (h255 : ∀ x ∈ B, 0 ≤ x ∧ x ≤ 255) (q : Nat) (hq : rdP B 0 = .bad q) :
    Calls Try.prog 8 #[.slice A B.length c] W (DecEnd W (.bad q)) := by
  have hmf : ∀ (fn : Fn) (first cap : Array Value) (w : World), (Instr.makeFunc fn first cap).run Try.prog w = .ok (.func fn first cap) w := fun _ _ _ _ => rfl
  have hV := dv_begin W A B.length c
  obtain ⟨V, hVe⟩ : ∃ V, V = decV W A B.length c := ⟨_, rfl⟩
  rw [← hVe] at hV
  have hC := code_calls 0 hB h255 (⟨hV.since, by omega, hV.hr, Nat.zero_le _⟩ : Rdr W V (W.heap.size + 1 + 1) A c B 0)
  rw [hq] at hC
  have HC := Aside0.mk hC
  have HV := Aside0.mk hV
  have HE := Aside0.mk (hVe.trans (show decV W A B.length c = _ from rfl))
  clear hVe hC hV hB h255 hq
  go_enter_defers Try.func8, Try.ntmps8
  go_wp2_with (go_at_call 17; go_loud (have he := HE.out; unfold decV at he; rw [← he]; clear he; refine HC.out.mono ?_; rintro e w5 ⟨hk5, rfl, hr5⟩; have HD5 := Aside0.mk (HV.out.kept hr5.since hk5 hr5.blk); clear hk5 hr5))
  have hd := HD5.out
  refine leaves_cons (f := 16) (args := #[.pointer (some ⟨W.heap.size + 1 + 1 + 1, 0, none⟩), .pointer (some ⟨W.heap.size, 0, none⟩), .pointer (some ⟨W.heap.size + 1, 0, none⟩)]) (by simp) (by simp [go_sem]) ?_
  refine (dec_panics [] hd.h4 hd.hr hd.h2 hd.h3 (by omega)).mono ?_
  rintro e u' w'' ⟨rfl, rfl, rfl⟩
  obtain ⟨x1, x2, x3⟩ := decW_at (q := q) hd
  have z0 := (cell_of_heap x2 0).trans (rfl : _ = some (Value.slice none 0 0))
  have z1 := (cell_of_heap x2 1).trans (rfl : _ = some (Value.int .i64 0))
  have z2 := (cell_of_heap x2 2).trans (rfl : _ = some (Value.slice none 0 0))
  have z3 := (cell_of_heap x3 0).trans (rfl : _ = some (Value.int .i64 21))
  have z4 := (cell_of_heap x3 1).trans (rfl : _ = some (Value.int .i64 (q : Int)))
  simp [Leaves, settle, results, Try.results8, go_sem, z0, z1, z2, z3, z4]
  exact ⟨x1, rfl⟩

/-- What is known behind the call of code, and the store of what it handed back. -/
theorem dv_stored {W w5 : World} {A : Option Addr} {n c : Nat} {v0 v1 v2 : Value} {p : Int} (h : Dv W w5 A n c v0 v1 v2 p) (x0 x1 x2 : Value) : Dv W (((w5.setCell ⟨W.heap.size, 0, none⟩ x0).setCell ⟨W.heap.size, 1, none⟩ x1).setCell ⟨W.heap.size, 2, none⟩ x2) A n c x0 x1 x2 p := by
  have h1 := Go.Joins.block_setCell (i := 0) h.h2 x0
  have h2 := Go.Joins.block_setCell (i := 1) h1 x1
  have h3 := Go.Joins.block_setCell (i := 2) h2 x2
  refine ⟨((h.since.set (by simp) _).set (by simp) _).set (by simp) _, h3, ?_, ?_, ?_⟩ <;> rw [Below.heap_setCell _ _ _ _ (by simp <;> omega), Below.heap_setCell _ _ _ _ (by simp <;> omega), Below.heap_setCell _ _ _ _ (by simp <;> omega)]
  · exact h.h3
  · exact h.hr
  · exact h.h4

set_option maxHeartbeats 4000000 in
set_option maxRecDepth 100000 in
theorem decode_short (W : World) {A : Option Addr} {c : Nat} {B : List Int} (hB : Bs W A c B) (h255 : ∀ x ∈ B, 0 ≤ x ∧ x ≤ 255) (q : Nat) (ws : List Int) (rg : Int) (xs : List S39) (hq : rdP B 0 = .ok (ws, rg, xs) q) (hlt : q < B.length) :
    Calls Try.prog 8 #[.slice A B.length c] W (DecEnd W (.bad q)) := by
  have hmf : ∀ (fn : Fn) (first cap : Array Value) (w : World), (Instr.makeFunc fn first cap).run Try.prog w = .ok (.func fn first cap) w := fun _ _ _ _ => rfl
  have hV := dv_begin W A B.length c
  obtain ⟨V, hVe⟩ : ∃ V, V = decV W A B.length c := ⟨_, rfl⟩
  rw [← hVe] at hV
  have hC := code_calls 0 hB h255 (⟨hV.since, by omega, hV.hr, Nat.zero_le _⟩ : Rdr W V (W.heap.size + 1 + 1) A c B 0)
  rw [hq] at hC
  have HC := Aside0.mk hC
  have HV := Aside0.mk hV
  have HE := Aside0.mk (hVe.trans (show decV W A B.length c = _ from rfl))
  have hlt2 : (q : Int) < (B.length : Int) := by omega
  have hltd : decide (q < B.length) = true := decide_eq_true hlt
  clear hVe hC hV hB h255 hq
  go_enter_defers Try.func8, Try.ntmps8
  go_wp2_with (go_at_call 17; go_loud (have he := HE.out; unfold decV at he; rw [← he]; clear he; refine HC.out.mono ?_; rintro e w5 ⟨hk5, hr5, vW, vI, rfl, ho1, ho2⟩; obtain ⟨A1, c1, hv1⟩ := own_slice ho1; obtain ⟨A2, c2, hv2⟩ := own_slice ho2; subst hv1 hv2; have hd := HV.out.kept hr5.since hk5 hr5.blk; have HD5 := Aside0.mk hd; have z0 := (cell_of_heap hd.h2 0).trans (rfl : _ = some (Value.slice none 0 0)); have z1 := (cell_of_heap hd.h2 1).trans (rfl : _ = some (Value.int .i64 0)); have z2 := (cell_of_heap hd.h2 2).trans (rfl : _ = some (Value.slice none 0 0)); have y0 := free_of_heap hd.h2 0; have y1 := free_of_heap hd.h2 1; have y2 := free_of_heap hd.h2 2; have z3 := (cell_of_heap hd.h4 0).trans (rfl : _ = some (Value.pointer (some ⟨W.heap.size + 1 + 1, 0, none⟩))); have z4 := (cell_of_heap hd.hr 1).trans (rfl : _ = some (Value.int .i64 (q : Int))); clear hk5 hr5 ho1 ho2 hd))
  have HD9 := Aside0.mk (dv_stored HD5.out (.slice A1 ws.length c1) (.int .i64 rg) (.slice A2 xs.length c2))
  have hd := HD9.out
  refine leaves_cons (f := 16) (args := #[.pointer (some ⟨W.heap.size + 1 + 1 + 1, 0, none⟩), .pointer (some ⟨W.heap.size, 0, none⟩), .pointer (some ⟨W.heap.size + 1, 0, none⟩)]) (by simp) (by simp [go_sem]) ?_
  refine (dec_panics [] hd.h4 hd.hr hd.h2 hd.h3 (by omega)).mono ?_
  rintro e u' w'' ⟨rfl, rfl, rfl⟩
  obtain ⟨x1, x2, x3⟩ := decW_at (q := q) hd
  have z0 := (cell_of_heap x2 0).trans (rfl : _ = some (Value.slice none 0 0))
  have z1 := (cell_of_heap x2 1).trans (rfl : _ = some (Value.int .i64 0))
  have z2 := (cell_of_heap x2 2).trans (rfl : _ = some (Value.slice none 0 0))
  have z3 := (cell_of_heap x3 0).trans (rfl : _ = some (Value.int .i64 21))
  have z4 := (cell_of_heap x3 1).trans (rfl : _ = some (Value.int .i64 (q : Int)))
  simp [Leaves, settle, results, Try.results8, go_sem, z0, z1, z2, z3, z4]
  exact ⟨x1, rfl⟩

theorem own_le {w : World} {base base' size n : Nat} {e : TypeId} {v : Value} {xs : List Value} (h : w.ownsRow base e size v n xs) (hb : base' ≤ base) : w.ownsRow base' e size v n xs :=
  ⟨h.1, h.2.elim Or.inl (fun ⟨g, cap, cur, hv, hg, r⟩ => Or.inr ⟨g, cap, cur, hv, Nat.le_trans hb hg, r⟩)⟩
theorem own_since {w w' : World} {base size n : Nat} {e : TypeId} {v : Value} {xs : List Value} (h : w.ownsRow base e size v n xs) (hs : Since w w') : w'.ownsRow base e size v n xs :=
  own_kept h fun k hk => hs.b.block k (own_lt h hk).1
theorem stored_own {W V w5 wS : World} {A : Option Addr} {n c : Nat} (hV : Dv W V A n c (.slice none 0 0) (.int .i64 0) (.slice none 0 0) 0) {v1 v2 x0 x1 x2 : Value} {n1 n2 : Nat} {cs1 cs2 : List Value} (h1 : w5.ownsRow V.heap.size 3 1 v1 n1 cs1) (h2 : w5.ownsRow V.heap.size 39 5 v2 n2 cs2) (hS : wS = ((w5.setCell ⟨W.heap.size, 0, none⟩ x0).setCell ⟨W.heap.size, 1, none⟩ x1).setCell ⟨W.heap.size, 2, none⟩ x2) :
    wS.ownsRow W.heap.size 3 1 v1 n1 cs1 ∧ wS.ownsRow W.heap.size 39 5 v2 n2 cs2 := by
  have hl := (Array.getElem?_eq_some_iff.1 hV.h2).1
  have hh : ∀ k, V.heap.size ≤ k → wS.heap[k]? = w5.heap[k]? := by
    intro k hk
    rw [hS, Below.heap_setCell _ _ _ _ (by simp; omega), Below.heap_setCell _ _ _ _ (by simp; omega), Below.heap_setCell _ _ _ _ (by simp; omega)]
  exact ⟨own_le (own_kept h1 fun k hk => hh k (own_lt h1 hk).2.1) (by omega), own_le (own_kept h2 fun k hk => hh k (own_lt h2 hk).2.1) (by omega)⟩

set_option maxHeartbeats 4000000 in
set_option maxRecDepth 100000 in
theorem decode_wrong (W : World) {A : Option Addr} {c : Nat} {B : List Int} (hB : Bs W A c B) (h255 : ∀ x ∈ B, 0 ≤ x ∧ x ≤ 255) (ws : List Int) (rg : Int) (xs : List S39) (hq : rdP B 0 = .ok (ws, rg, xs) B.length) (hck : chkB ws rg xs = false) :
    Calls Try.prog 8 #[.slice A B.length c] W (DecEnd W (.bad B.length)) := by
  have hmf : ∀ (fn : Fn) (first cap : Array Value) (w : World), (Instr.makeFunc fn first cap).run Try.prog w = .ok (.func fn first cap) w := fun _ _ _ _ => rfl
  obtain ⟨q, hqq⟩ : ∃ q, q = B.length := ⟨_, rfl⟩
  have HSZ := Aside0.mk (show ∀ x ∈ xs, x.f4.size ≤ 9223372036854775800 from fun x hx => by have := ((rdP_read h255 hq).1.x x hx).s; omega)
  have HCK := Aside0.mk hck
  have hV := dv_begin W A B.length c
  obtain ⟨V, hVe⟩ : ∃ V, V = decV W A B.length c := ⟨_, rfl⟩
  rw [← hVe] at hV
  have hC := code_calls 0 hB h255 (⟨hV.since, by omega, hV.hr, Nat.zero_le _⟩ : Rdr W V (W.heap.size + 1 + 1) A c B 0)
  rw [hq] at hC
  rw [← hqq] at hC hV hVe ⊢
  have HC := Aside0.mk hC
  have HV := Aside0.mk hV
  have HE := Aside0.mk (hVe.trans (show decV W A q c = _ from rfl))
  have hltd : decide (q < q) = false := decide_eq_false (by omega)
  have HQQ := Aside0.mk hqq
  clear hVe hC hV hB h255 hq hck hqq
  go_enter_defers Try.func8, Try.ntmps8
  go_wp2_with (first | (go_at_call 17; go_loud (have he := HE.out; unfold decV at he; rw [← he]; clear he; refine HC.out.mono ?_; rintro e w5 ⟨hk5, hr5, vW, vI, rfl, ho1, ho2⟩; obtain ⟨A1, c1, hv1⟩ := own_slice ho1; obtain ⟨A2, c2, hv2⟩ := own_slice ho2; subst hv1 hv2; have hd := HV.out.kept hr5.since hk5 (show w5.heap[W.heap.size + 1 + 1]? = some (.cells #[.slice A q c, .int .i64 (q : Int)] 50 (0, 0)) by have hb := hr5.blk; rw [← HQQ.out] at hb; exact hb); have HD5 := Aside0.mk hd; have z0 := (cell_of_heap hd.h2 0).trans (rfl : _ = some (Value.slice none 0 0)); have z1 := (cell_of_heap hd.h2 1).trans (rfl : _ = some (Value.int .i64 0)); have z2 := (cell_of_heap hd.h2 2).trans (rfl : _ = some (Value.slice none 0 0)); have y0 := free_of_heap hd.h2 0; have y1 := free_of_heap hd.h2 1; have y2 := free_of_heap hd.h2 2; have z3 := (cell_of_heap hd.h4 0).trans (rfl : _ = some (Value.pointer (some ⟨W.heap.size + 1 + 1, 0, none⟩))); have z4 := (cell_of_heap hd.hr 1).trans (rfl : _ = some (Value.int .i64 (q : Int))); have HO := Aside0.mk (And.intro ho1 ho2); clear hk5 hr5 ho1 ho2 hd)) | (go_at_call 12; go_loud (obtain ⟨wS, hwS⟩ : ∃ wS, wS = ((w5.setCell ⟨W.heap.size, 0, none⟩ (.slice A1 ws.length c1)).setCell ⟨W.heap.size, 1, none⟩ (.int .i64 rg)).setCell ⟨W.heap.size, 2, none⟩ (.slice A2 xs.length c2) := ⟨_, rfl⟩; rw [← hwS]; have hds := dv_stored HD5.out (.slice A1 ws.length c1) (.int .i64 rg) (.slice A2 xs.length c2); rw [← hwS] at hds; have hos := stored_own HV.out HO.out.1 HO.out.2 hwS; have HOS := Aside0.mk hos; obtain ⟨_, _, hv1, hS1⟩ := own3_Sl hos.1; obtain ⟨_, _, hv2, hl2, hS2⟩ := own39_C hos.2; cases hv1; cases hv2; have hck := check_calls wS A1 c1 ws hS1 rg A2 c2 xs hS2 hl2 HSZ.out; rw [HCK.out] at hck; refine hck.mono ?_; clear hck hS1 hS2 hl2; rintro e w7 ⟨rfl, hs7⟩; have HS7 := Aside0.mk hs7; have HD9 := Aside0.mk (hds.step hs7); clear hds hs7 hos)))
  have hd := HD9.out
  refine leaves_cons (f := 16) (args := #[.pointer (some ⟨W.heap.size + 1 + 1 + 1, 0, none⟩), .pointer (some ⟨W.heap.size, 0, none⟩), .pointer (some ⟨W.heap.size + 1, 0, none⟩)]) (by simp) (by simp [go_sem]) ?_
  refine (dec_panics [] hd.h4 hd.hr hd.h2 hd.h3 (by omega)).mono ?_
  rintro e u' w'' ⟨rfl, rfl, rfl⟩
  obtain ⟨x1, x2, x3⟩ := decW_at (q := q) hd
  have z0 := (cell_of_heap x2 0).trans (rfl : _ = some (Value.slice none 0 0))
  have z1 := (cell_of_heap x2 1).trans (rfl : _ = some (Value.int .i64 0))
  have z2 := (cell_of_heap x2 2).trans (rfl : _ = some (Value.slice none 0 0))
  have z3 := (cell_of_heap x3 0).trans (rfl : _ = some (Value.int .i64 21))
  have z4 := (cell_of_heap x3 1).trans (rfl : _ = some (Value.int .i64 (q : Int)))
  simp [Leaves, settle, results, Try.results8, go_sem, z0, z1, z2, z3, z4]
  exact ⟨x1, rfl⟩

set_option maxHeartbeats 4000000 in
set_option maxRecDepth 100000 in
theorem decode_ok (W : World) {A : Option Addr} {c : Nat} {B : List Int} (hB : Bs W A c B) (h255 : ∀ x ∈ B, 0 ≤ x ∧ x ≤ 255) (ws : List Int) (rg : Int) (xs : List S39) (hq : rdP B 0 = .ok (ws, rg, xs) B.length) (hck : chkB ws rg xs = true) :
    Calls Try.prog 8 #[.slice A B.length c] W (DecEnd W (.ok (ws, rg, xs) B.length)) := by
  have hmf : ∀ (fn : Fn) (first cap : Array Value) (w : World), (Instr.makeFunc fn first cap).run Try.prog w = .ok (.func fn first cap) w := fun _ _ _ _ => rfl
  obtain ⟨q, hqq⟩ : ∃ q, q = B.length := ⟨_, rfl⟩
  have HSZ := Aside0.mk (show ∀ x ∈ xs, x.f4.size ≤ 9223372036854775800 from fun x hx => by have := ((rdP_read h255 hq).1.x x hx).s; omega)
  have HCK := Aside0.mk hck
  have hV := dv_begin W A B.length c
  obtain ⟨V, hVe⟩ : ∃ V, V = decV W A B.length c := ⟨_, rfl⟩
  rw [← hVe] at hV
  have hC := code_calls 0 hB h255 (⟨hV.since, by omega, hV.hr, Nat.zero_le _⟩ : Rdr W V (W.heap.size + 1 + 1) A c B 0)
  rw [hq] at hC
  rw [← hqq] at hC hV hVe ⊢
  have HC := Aside0.mk hC
  have HV := Aside0.mk hV
  have HE := Aside0.mk (hVe.trans (show decV W A q c = _ from rfl))
  have hltd : decide (q < q) = false := decide_eq_false (by omega)
  have HQQ := Aside0.mk hqq
  clear hVe hC hV hB h255 hq hck hqq
  go_enter_defers Try.func8, Try.ntmps8
  go_wp2_with (first | (go_at_call 17; go_loud (have he := HE.out; unfold decV at he; rw [← he]; clear he; refine HC.out.mono ?_; rintro e w5 ⟨hk5, hr5, vW, vI, rfl, ho1, ho2⟩; obtain ⟨A1, c1, hv1⟩ := own_slice ho1; obtain ⟨A2, c2, hv2⟩ := own_slice ho2; subst hv1 hv2; have hd := HV.out.kept hr5.since hk5 (show w5.heap[W.heap.size + 1 + 1]? = some (.cells #[.slice A q c, .int .i64 (q : Int)] 50 (0, 0)) by have hb := hr5.blk; rw [← HQQ.out] at hb; exact hb); have HD5 := Aside0.mk hd; have z0 := (cell_of_heap hd.h2 0).trans (rfl : _ = some (Value.slice none 0 0)); have z1 := (cell_of_heap hd.h2 1).trans (rfl : _ = some (Value.int .i64 0)); have z2 := (cell_of_heap hd.h2 2).trans (rfl : _ = some (Value.slice none 0 0)); have y0 := free_of_heap hd.h2 0; have y1 := free_of_heap hd.h2 1; have y2 := free_of_heap hd.h2 2; have z3 := (cell_of_heap hd.h4 0).trans (rfl : _ = some (Value.pointer (some ⟨W.heap.size + 1 + 1, 0, none⟩))); have z4 := (cell_of_heap hd.hr 1).trans (rfl : _ = some (Value.int .i64 (q : Int))); have HO := Aside0.mk (And.intro ho1 ho2); clear hk5 hr5 ho1 ho2 hd)) | (go_at_call 12; go_loud (obtain ⟨wS, hwS⟩ : ∃ wS, wS = ((w5.setCell ⟨W.heap.size, 0, none⟩ (.slice A1 ws.length c1)).setCell ⟨W.heap.size, 1, none⟩ (.int .i64 rg)).setCell ⟨W.heap.size, 2, none⟩ (.slice A2 xs.length c2) := ⟨_, rfl⟩; rw [← hwS]; have hds := dv_stored HD5.out (.slice A1 ws.length c1) (.int .i64 rg) (.slice A2 xs.length c2); rw [← hwS] at hds; have hos := stored_own HV.out HO.out.1 HO.out.2 hwS; have HOS := Aside0.mk hos; obtain ⟨_, _, hv1, hS1⟩ := own3_Sl hos.1; obtain ⟨_, _, hv2, hl2, hS2⟩ := own39_C hos.2; cases hv1; cases hv2; have hck := check_calls wS A1 c1 ws hS1 rg A2 c2 xs hS2 hl2 HSZ.out; rw [HCK.out] at hck; refine hck.mono ?_; clear hck hS1 hS2 hl2; rintro e w7 ⟨rfl, hs7⟩; have HS7 := Aside0.mk hs7; have hd9 := hds.step hs7; have HD9 := Aside0.mk hd9; have m0 := (cell_of_heap hd9.h2 0).trans (rfl : _ = some (Value.slice A1 ws.length c1)); have m1 := (cell_of_heap hd9.h2 1).trans (rfl : _ = some (Value.int .i64 rg)); have m2 := (cell_of_heap hd9.h2 2).trans (rfl : _ = some (Value.slice A2 xs.length c2)); have m3 := (cell_of_heap hd9.h3 0).trans (rfl : _ = some (Value.int .i64 0)); have m4 := (cell_of_heap hd9.h3 1).trans (rfl : _ = some (Value.int .i64 0)); have n0 := free_of_heap hd9.h2 0; have n1 := free_of_heap hd9.h2 1; have n2 := free_of_heap hd9.h2 2; have n3 := free_of_heap hd9.h3 0; have n4 := free_of_heap hd9.h3 1; clear hds hs7 hos hd9 hwS z0 z1 z2 z3 z4 y0 y1 y2)))
  obtain ⟨w8, hw8⟩ : ∃ w8, w8 = ((((w7.setCell ⟨W.heap.size, 0, none⟩ (.slice A1 ws.length c1)).setCell ⟨W.heap.size, 1, none⟩ (.int .i64 rg)).setCell ⟨W.heap.size, 2, none⟩ (.slice A2 xs.length c2)).setCell ⟨W.heap.size + 1, 0, none⟩ (.int .i64 0)).setCell ⟨W.heap.size + 1, 1, none⟩ (.int .i64 0) := ⟨_, rfl⟩
  rw [← hw8]
  have hst := dv_stored HD9.out (.slice A1 ws.length c1) (.int .i64 rg) (.slice A2 xs.length c2)
  have g1 := Go.Joins.block_setCell (i := 0) hst.h3 (.int .i64 0)
  have g2 := Go.Joins.block_setCell (i := 1) g1 (.int .i64 0)
  have x3 : w8.heap[W.heap.size + 1]? = some (.cells #[.int .i64 0, .int .i64 0] 31 (0, 0)) := by rw [hw8]; exact g2
  have x2 : w8.heap[W.heap.size]? = some (.cells #[.slice A1 ws.length c1, .int .i64 rg, .slice A2 xs.length c2] 25 (0, 0)) := by
    rw [hw8, Below.heap_setCell _ _ _ _ (by simp), Below.heap_setCell _ _ _ _ (by simp)]
    exact hst.h2
  have x1 : Since W w8 := by rw [hw8]; exact (hst.since.set (by simp) _).set (by simp) _
  have hh : ∀ k, k ≠ W.heap.size → k ≠ W.heap.size + 1 → w8.heap[k]? = w7.heap[k]? := by
    intro k k1 k2
    rw [hw8, Below.heap_setCell _ _ _ _ (by simpa using k2), Below.heap_setCell _ _ _ _ (by simpa using k2), Below.heap_setCell _ _ _ _ (by simpa using k1), Below.heap_setCell _ _ _ _ (by simpa using k1), Below.heap_setCell _ _ _ _ (by simpa using k1)]
  have hty : ∀ (k : Nat) (cur : Array Value) (t : TypeId), t ≠ 25 → t ≠ 31 → w7.heap[k]? = some (Obj.cells cur t (0, 0)) → k ≠ W.heap.size ∧ k ≠ W.heap.size + 1 := by
    intro k cur t t1 t2 hk
    constructor
    · rintro rfl
      rw [HD9.out.h2] at hk
      injection hk with hk
      injection hk with _ hk _
      exact t1 hk.symm
    · rintro rfl
      rw [HD9.out.h3] at hk
      injection hk with hk
      injection hk with _ hk _
      exact t2 hk.symm
  have ho1 := own_since HOS.out.1 HS7.out
  have ho2 := own_since HOS.out.2 HS7.out
  have ho3 : w8.ownsRow W.heap.size 3 1 (.slice A1 ws.length c1) ws.length (ws.map (Value.int .i64)) := own_kept ho1 fun k hk => by
    obtain ⟨_, _, cur, hc⟩ := own_lt ho1 hk
    obtain ⟨k1, k2⟩ := hty k cur 3 (by decide) (by decide) hc
    exact hh k k1 k2
  have ho4 : w8.ownsRow W.heap.size 39 5 (.slice A2 xs.length c2) xs.length (xs.flatMap cells39) := own_kept ho2 fun k hk => by
    obtain ⟨_, _, cur, hc⟩ := own_lt ho2 hk
    obtain ⟨k1, k2⟩ := hty k cur 39 (by decide) (by decide) hc
    exact hh k k1 k2
  have hs9 := (Since.refl w8).alloc (.cells #[] 52)
  clear hw8 hst g1 g2 hh hty ho1 ho2 m0 m1 m2 m3 m4 n0 n1 n2 n3 n4
  refine leaves_cons (f := 16) (args := #[.pointer (some ⟨W.heap.size + 1 + 1 + 1, 0, none⟩), .pointer (some ⟨W.heap.size, 0, none⟩), .pointer (some ⟨W.heap.size + 1, 0, none⟩)]) (by simp) (by simp [go_sem]) ?_
  refine (dec_idle _ _ _ _).mono ?_
  rintro e u' w'' ⟨rfl, rfl, rfl⟩
  have y2 := Cd.blk hs9.b x2
  have y3 := Cd.blk hs9.b x3
  have z0 := (cell_of_heap y2 0).trans (rfl : _ = some (Value.slice A1 ws.length c1))
  have z1 := (cell_of_heap y2 1).trans (rfl : _ = some (Value.int .i64 rg))
  have z2 := (cell_of_heap y2 2).trans (rfl : _ = some (Value.slice A2 xs.length c2))
  have z3 := (cell_of_heap y3 0).trans (rfl : _ = some (Value.int .i64 0))
  have z4 := (cell_of_heap y3 1).trans (rfl : _ = some (Value.int .i64 0))
  obtain ⟨w9, hw9⟩ : ∃ w9, w9 = w8.alloc (.cells #[] 52) := ⟨_, rfl⟩
  rw [← hw9] at z0 z1 z2 z3 z4 hs9 ⊢
  simp [Leaves, settle, results, Try.results8, go_sem, z0, z1, z2, z3, z4]
  exact ⟨x1.trans hs9, _, _, rfl, own_since ho3 hs9, own_since ho4 hs9⟩

theorem decode_calls (W : World) {A : Option Addr} {c : Nat} {B : List Int} (hB : Bs W A c B) (h255 : ∀ x ∈ B, 0 ≤ x ∧ x ≤ 255) :
    Calls Try.prog 8 #[.slice A B.length c] W (DecEnd W (decP B)) := by
  unfold decP
  cases h : rdP B 0 with
  | bad q => exact decode_bad W hB h255 q h
  | ok a q =>
    obtain ⟨ws, rg, xs⟩ := a
    simp only
    by_cases hq : q < B.length
    · rw [if_pos (.inl hq)]
      exact decode_short W hB h255 q ws rg xs h hq
    · have hle := cuts_le cuts_P h (Nat.zero_le _)
      have e : q = B.length := by omega
      subst e
      cases hc : chkB ws rg xs with
      | false =>
        rw [if_pos (.inr rfl)]
        exact decode_wrong W hB h255 ws rg xs h hc
      | true =>
        rw [if_neg (by rintro (h1 | h1); omega; cases h1)]
        exact decode_ok W hB h255 ws rg xs h hc


end Go.Proofs.Ytdecgknnbegobaa.Cd

namespace Go.Proofs.Ytdecgknnbegobaa.Cd
open Go.RowKit Go.Lib Go.Maps Go.Proofs.Ytdecgknnbegobaa.D Go.Proofs.YtdecgknnbegobaaW.PrintWords Go.Proofs.YtdecgknnbegobaaW.PrintLast Go.Proofs.YtdecgknnbegobaaW.PrintMore
set_option linter.unusedVariables false
set_option linter.unusedSimpArgs false

/-- A program in memory: its numbers as Go's are. -/
structure Pg (w : World) (A0 : Option Addr) (c0 : Nat) (ws : List Int) (rg : Int) (A2 : Option Addr) (c2 : Nat) (xs : List S39) : Prop where
  h0 : Sl w A0 c0 ws
  h2 : Kd.C k39 w A2 xs.length xs
  hc2 : xs.length ≤ c2
  hx : ∀ x ∈ xs, (-9223372036854775808 ≤ x.f1 ∧ x.f1 ≤ 9223372036854775807) ∧ (-9223372036854775808 ≤ x.f2 ∧ x.f2 ≤ 9223372036854775807) ∧ (-9223372036854775808 ≤ x.f3 ∧ x.f3 ≤ 9223372036854775807) ∧ x.f4.size ≤ 9223372036854775800
theorem Pg.since {w w' : World} {A0 : Option Addr} {c0 : Nat} {ws : List Int} {rg : Int} {A2 : Option Addr} {c2 : Nat} {xs : List S39} (h : Pg w A0 c0 ws rg A2 c2 xs) (hs : Since w w') : Pg w' A0 c0 ws rg A2 c2 xs := ⟨hs.sl h.h0, Kd.C_below h.h2 hs.b, h.hc2, h.hx⟩
theorem chkB_facts {ws : List Int} {rg : Int} {xs : List S39} (h : chkB ws rg xs = true) (hx : ∀ x ∈ xs, x.f4.size ≤ 9223372036854775800) : ws.length ≤ 128 ∧ (0 ≤ rg ∧ rg ≤ 256) ∧ xs.length ≤ 4096 ∧ (∀ v ∈ ws, 0 ≤ v ∧ v ≤ 8) ∧ ∀ x ∈ xs, 0 ≤ plF x.f0 ∧ x.f4.size ≤ 65536 := by
  unfold chkB at h
  split at h
  · cases h
  · rename_i h1
    split at h
    · cases h
    · rename_i h2
      refine ⟨by omega, by omega, by omega, fun v hv => ?_, fun x hxm => ?_⟩
      · have h3 : ws.any badW = false := by simpa using h2
        rw [List.any_eq_false] at h3
        have := h3 v hv
        unfold badW at this
        simp at this
        omega
      · split at h
        · cases h
        · rename_i r hr
          have := runC_all (ws := ws) (rg := rg) (fun x => 0 ≤ plF x.f0 ∧ (x.f4.size ≤ 9223372036854775800 → x.f4.size ≤ 65536)) (fun D x hB => by
            unfold insB at hB
            simp only [Bool.and_eq_true, Bool.not_eq_true', decide_eq_false_iff_not] at hB
            exact ⟨by omega, fun hs => textB_len hs hB.2⟩) xs _ _ _ _ _ hr x hxm
          exact ⟨this.1, this.2 (hx x hxm)⟩
theorem prog_ok {ws : List Int} {rg : Int} {xs : List S39} (h : chkB ws rg xs = true) (hx : ∀ x ∈ xs, (-9223372036854775808 ≤ x.f1 ∧ x.f1 ≤ 9223372036854775807) ∧ (-9223372036854775808 ≤ x.f2 ∧ x.f2 ≤ 9223372036854775807) ∧ (-9223372036854775808 ≤ x.f3 ∧ x.f3 ≤ 9223372036854775807) ∧ x.f4.size ≤ 9223372036854775800) : ProgOk ws rg xs := by
  obtain ⟨h1, h2, h3, h4, h5⟩ := chkB_facts h (fun x hxm => (hx x hxm).2.2.2)
  exact ⟨h1, h4, h2, h3, fun x hxm => ⟨(h5 x hxm).1, (hx x hxm).1, (hx x hxm).2.1, (hx x hxm).2.2.1, (h5 x hxm).2⟩⟩
/-- What a call of Encode answers. -/
def EncEnd (W : World) (ws : List Int) (rg : Int) (xs : List S39) (e : Ending) (w' : World) : Prop :=
  if chkB ws rg xs = true then ∃ v, e = .returned (.tuple #[v, .int .i64 0]) ∧ Bow W w' v (encL ws rg xs) else e = .returned (.tuple #[.slice none 0 0, .int .i64 21]) ∧ Since W w'
theorem encode_calls (W : World) {A0 : Option Addr} {c0 : Nat} {ws : List Int} {rg : Int} {A2 : Option Addr} {c2 : Nat} {xs : List S39} (h : Pg W A0 c0 ws rg A2 c2 xs) :
    Calls Try.prog 7 #[.agg #[.slice A0 ws.length c0, .int .i64 rg, .slice A2 xs.length c2]] W (EncEnd W ws rg xs) := by
  unfold EncEnd
  cases hc : chkB ws rg xs with
  | true =>
    simp only [if_true]
    obtain ⟨h1, h2, h3, h4, h5⟩ := chkB_facts hc (fun x hxm => (h.hx x hxm).2.2.2)
    obtain ⟨k, hk⟩ := Int.eq_ofNat_of_zero_le h2.1
    subst hk
    exact encode_yes W A0 c0 ws h.h0 k A2 c2 xs h.h2 h.hc2 (fun x hxm => ⟨⟨(h5 x hxm).1, by have := pl_lt x.f0; omega⟩, (h.hx x hxm).1, (h.hx x hxm).2.1, (h.hx x hxm).2.2.1, (h5 x hxm).2⟩) h4 hc
  | false =>
    simp only [Bool.false_eq_true, if_false]
    exact encode_no W A0 c0 ws h.h0 rg A2 c2 xs h.h2 h.hc2 (fun x hxm => (h.hx x hxm).2.2.2) hc
theorem cnt_255 : ∀ (k n : Nat), ∀ c ∈ cntF k n, 0 ≤ c ∧ c ≤ 255
  | 0, n => by simp [cntF]
  | k + 1, n => by
    unfold cntF
    split
    · intro c hc
      rcases List.mem_cons.1 hc with rfl | hc
      · omega
      · exact cnt_255 k _ c hc
    · intro c hc
      simp at hc
      omega
theorem bytes_255 (s : ByteArray) : ∀ c ∈ bytesOf s, 0 ≤ c ∧ c ≤ 255 := by
  intro c hc
  unfold bytesOf at hc
  obtain ⟨b, _, rfl⟩ := List.mem_map.1 hc
  have := b.toNat_lt
  omega
theorem enc_255 {ws : List Int} {rg : Int} {xs : List S39} (h : ProgOk ws rg xs) : ∀ c ∈ encL ws rg xs, 0 ≤ c ∧ c ≤ 255 := by
  intro c hc
  unfold encL at hc
  simp only [List.mem_append] at hc
  rcases hc with hc | hc | hc | hc | hc | hc
  · simp at hc; omega
  · exact cnt_255 _ _ c hc
  · have := h.w c hc; omega
  · exact cnt_255 _ _ c hc
  · exact cnt_255 _ _ c hc
  · unfold encX at hc
    obtain ⟨x, hx, hc⟩ := List.mem_flatMap.1 hc
    unfold encI at hc
    simp only [List.mem_cons, List.mem_append] at hc
    rcases hc with hc | hc | hc | hc | hc | hc
    · have h1 := (h.x x hx).pl; have h2 := pl_lt x.f0; omega
    · exact cnt_255 _ _ c hc
    · exact cnt_255 _ _ c hc
    · exact cnt_255 _ _ c hc
    · exact cnt_255 _ _ c hc
    · exact bytes_255 _ c hc
/-- Decode of Encode is the program. -/
theorem decP_enc {ws : List Int} {rg : Int} {xs : List S39} (h : ProgOk ws rg xs) (hc : chkB ws rg xs = true) : decP (encL ws rg xs) = .ok (ws, rg, xs) (encL ws rg xs).length := by
  unfold decP
  rw [rdP_write h]
  simp only
  rw [if_neg (by rw [hc]; rintro (h1 | h1); omega; cases h1)]
/-- A beginning is refused at its end. -/
theorem decP_cut {ws : List Int} {rg : Int} {xs : List S39} (h : ProgOk ws rg xs) (cut : Nat) (hcut : cut < (encL ws rg xs).length) : decP ((encL ws rg xs).take cut) = .bad cut := by
  unfold decP
  rw [rdP_cut h cut hcut]
/-- What is read has just these bytes. -/
theorem decP_read {B : List Int} (hB : ∀ c ∈ B, 0 ≤ c ∧ c ≤ 255) {ws : List Int} {rg : Int} {xs : List S39} {q : Nat} (h : decP B = .ok (ws, rg, xs) q) : ProgOk ws rg xs ∧ chkB ws rg xs = true ∧ B = encL ws rg xs := by
  unfold decP at h
  cases e : rdP B 0 with
  | bad p => rw [e] at h; cases h
  | ok a p =>
    obtain ⟨ws', rg', xs'⟩ := a
    rw [e] at h
    simp only at h
    split at h
    · cases h
    · rename_i hn
      injection h with h1 h2
      injection h1 with h3 h4
      injection h4 with h4 h5
      subst h3 h4 h5
      have hle := cuts_le cuts_P e (Nat.zero_le _)
      have hp : p = B.length := by
        rcases Nat.lt_or_ge p B.length with h6 | h6
        · exact absurd (.inl h6) hn
        · omega
      rw [hp] at e
      obtain ⟨k1, k2⟩ := rdP_read hB e
      exact ⟨k1, by cases hq : chkB ws' rg' xs' with | true => rfl | false => exact absurd (.inr hq) hn, k2⟩

end Go.Proofs.Ytdecgknnbegobaa.Cd

namespace Go.Proofs.Ytdecgknnbegobaa.Cd
open Go.RowKit Go.Lib Go.Maps Go.Proofs.Ytdecgknnbegobaa.D Go.Proofs.YtdecgknnbegobaaW.PrintWords Go.Proofs.YtdecgknnbegobaaW.PrintLast Go.Proofs.YtdecgknnbegobaaW.PrintMore
set_option linter.unusedVariables false
set_option linter.unusedSimpArgs false

def difI (a b : S39) : Bool := !(a.f0.toList == b.f0.toList) || (!(a.f1 == b.f1) || (!(a.f2 == b.f2) || (!(a.f3 == b.f3) || !(a.f4.toList == b.f4.toList))))
theorem difI_iff (a b : S39) : difI a b = false ↔ a = b := by
  unfold difI
  simp only [Bool.or_eq_false_iff, Bool.not_eq_false', beq_iff_eq]
  constructor
  · rintro ⟨h0, h1, h2, h3, h4⟩
    cases a; cases b
    simp only at h0 h1 h2 h3 h4
    rw [toList_inj h0, toList_inj h4, h1, h2, h3]
  · rintro rfl
    simp
def sameX : List S39 → List S39 → Bool
  | [], [] => true
  | x :: xs, y :: ys => !difI x y && sameX xs ys
  | _, _ => false
theorem sameX_iff : ∀ (xs ys : List S39), sameX xs ys = true ↔ xs = ys
  | [], [] => by simp [sameX]
  | [], y :: ys => by simp [sameX]
  | x :: xs, [] => by simp [sameX]
  | x :: xs, y :: ys => by
    simp only [sameX, Bool.and_eq_true, Bool.not_eq_true', difI_iff, sameX_iff xs ys, List.cons.injEq]
def sameW : List Int → List Int → Bool
  | [], [] => true
  | x :: xs, y :: ys => decide (x = y) && sameW xs ys
  | _, _ => false
theorem sameW_iff : ∀ (xs ys : List Int), sameW xs ys = true ↔ xs = ys
  | [], [] => by simp [sameW]
  | [], y :: ys => by simp [sameW]
  | x :: xs, [] => by simp [sameW]
  | x :: xs, y :: ys => by
    simp only [sameW, Bool.and_eq_true, decide_eq_true_eq, sameW_iff xs ys, List.cons.injEq]
theorem sameW_len : ∀ (xs ys : List Int), xs.length ≠ ys.length → sameW xs ys = false := fun xs ys h => by
  cases e : sameW xs ys with
  | false => rfl
  | true => rw [(sameW_iff xs ys).1 e] at h; exact absurd rfl h
theorem sameX_len : ∀ (xs ys : List S39), xs.length ≠ ys.length → sameX xs ys = false := fun xs ys h => by
  cases e : sameX xs ys with
  | false => rfl
  | true => rw [(sameX_iff xs ys).1 e] at h; exact absurd rfl h
/-- Two programs: the same? -/
def sameB (ws : List Int) (rg : Int) (xs : List S39) (ws' : List Int) (rg' : Int) (xs' : List S39) : Bool := decide (rg = rg') && (sameW ws ws' && sameX xs xs')
theorem sameB_self (ws : List Int) (rg : Int) (xs : List S39) : sameB ws rg xs ws rg xs = true := by
  unfold sameB
  rw [(sameW_iff ws ws).2 rfl, (sameX_iff xs xs).2 rfl]
  simp
theorem sameB_comm (ws : List Int) (rg : Int) (xs : List S39) (ws' : List Int) (rg' : Int) (xs' : List S39) : sameB ws' rg' xs' ws rg xs = sameB ws rg xs ws' rg' xs' := by
  rw [Bool.eq_iff_iff]
  unfold sameB
  simp only [Bool.and_eq_true, decide_eq_true_eq, sameW_iff, sameX_iff]
  constructor <;> (rintro ⟨h1, h2, h3⟩; exact ⟨h1.symm, h2.symm, h3.symm⟩)
theorem rd39 {xs : List S39} {i : Nat} (h : i < xs.length) : rd_T39 xs (i : Int) = xs[i] := by simp [rd_T39, h]
theorem rdWi {xs : List Int} {i : Nat} (h : i < xs.length) : rd xs (i : Int) = xs[i] := by simp [rd, h]
theorem wrap_next {i n : Nat} (h : i < n) (hn : n ≤ 9223372036854775807) : wrap64 ((i : Int) + 1) = ((i + 1 : Nat) : Int) := by unfold wrap64; omega
theorem ref_l1 (ws ws' : List Int) (rg rg' : Int) (xs ys : List S39) (hl : xs.length = ys.length) (hn : xs.length ≤ 9223372036854775807) : ∀ (d i k : Nat), i + d = xs.length → d < k → vestryref18_Same.l1 k (i : Int) ws rg xs ws' rg' ys = some (sameX (xs.drop i) (ys.drop i)) := by
  intro d
  induction d with
  | zero =>
    intro i k hi hk
    obtain ⟨k, rfl⟩ : ∃ j, k = j + 1 := ⟨k - 1, by omega⟩
    rw [vestryref18_Same.l1, if_neg (by omega), List.drop_eq_nil_of_le (by omega), List.drop_eq_nil_of_le (by omega)]
    rfl
  | succ d ih =>
    intro i k hi hk
    obtain ⟨k, rfl⟩ : ∃ j, k = j + 1 := ⟨k - 1, by omega⟩
    rw [vestryref18_Same.l1, if_pos (by omega), if_pos (by omega), if_pos (by omega), rd39 (by omega : i < xs.length), rd39 (by omega : i < ys.length), List.drop_eq_getElem_cons (by omega : i < xs.length), List.drop_eq_getElem_cons (by omega : i < ys.length), sameX]
    show (if difI xs[i] ys[i] = true then some false else _) = _
    cases e : difI xs[i] ys[i] with
    | true => rfl
    | false =>
      rw [if_neg (by simp), wrap_next (by omega : i < xs.length) hn, ih (i + 1) k (by omega) (by omega)]
      rfl
theorem ref_l0 (ws ws' : List Int) (rg rg' : Int) (xs ys : List S39) (hw : ws.length = ws'.length) (hwn : ws.length ≤ 9223372036854775807) (hl : xs.length = ys.length) (hn : xs.length ≤ 9223372036854775807) : ∀ (d i k : Nat), i + d = ws.length → d + xs.length + 1 < k → vestryref18_Same.l0 k (i : Int) ws rg xs ws' rg' ys = some (sameW (ws.drop i) (ws'.drop i) && sameX xs ys) := by
  intro d
  induction d with
  | zero =>
    intro i k hi hk
    obtain ⟨k, rfl⟩ : ∃ j, k = j + 1 := ⟨k - 1, by omega⟩
    have h1 := ref_l1 ws ws' rg rg' xs ys hl hn xs.length 0 k (by omega) (by omega)
    rw [vestryref18_Same.l0, if_neg (by omega), List.drop_eq_nil_of_le (by omega), List.drop_eq_nil_of_le (by omega), show (0 : Int) = ((0 : Nat) : Int) from rfl, h1]
    rfl
  | succ d ih =>
    intro i k hi hk
    obtain ⟨k, rfl⟩ : ∃ j, k = j + 1 := ⟨k - 1, by omega⟩
    rw [vestryref18_Same.l0, if_pos (by omega), if_pos (by omega), if_pos (by omega), rdWi (by omega : i < ws.length), rdWi (by omega : i < ws'.length), List.drop_eq_getElem_cons (by omega : i < ws.length), List.drop_eq_getElem_cons (by omega : i < ws'.length), sameW]
    by_cases e : ws[i] = ws'[i]
    · rw [if_pos e, wrap_next (by omega : i < ws.length) hwn, ih (i + 1) k (by omega) (by omega), decide_eq_true e]
      rfl
    · rw [if_neg e, decide_eq_false e]
      rfl
theorem ref_same (ws : List Int) (rg : Int) (xs : List S39) (ws' : List Int) (rg' : Int) (xs' : List S39) (hwn : ws.length ≤ 9223372036854775807) (hn : xs.length ≤ 9223372036854775807) : ∃ k, vestryref18_Same.f k ws rg xs ws' rg' xs' = some (sameB ws rg xs ws' rg' xs') := by
  refine ⟨ws.length + xs.length + 5, ?_⟩
  unfold vestryref18_Same.f sameB
  by_cases h1 : rg = rg'
  · rw [if_pos h1, decide_eq_true h1]
    by_cases h2 : ws.length = ws'.length
    · rw [if_pos (by omega)]
      by_cases h3 : xs.length = xs'.length
      · have e : ((xs.length : Int) != (xs'.length : Int)) = false := by simp [h3]
        rw [e, show ws.length + xs.length + 5 = (ws.length + xs.length + 4) + 1 from rfl, vestryref18_Same.j0, if_neg (by simp), show (0 : Int) = ((0 : Nat) : Int) from rfl, ref_l0 ws ws' rg rg' xs xs' h2 hwn h3 hn ws.length 0 _ (by omega) (by omega)]
        simp
      · have e : ((xs.length : Int) != (xs'.length : Int)) = true := by simp; omega
        rw [e, show ws.length + xs.length + 5 = (ws.length + xs.length + 4) + 1 from rfl, vestryref18_Same.j0, if_pos rfl, sameX_len xs xs' h3]
        simp
    · rw [if_neg (by omega), show ws.length + xs.length + 5 = (ws.length + xs.length + 4) + 1 from rfl, vestryref18_Same.j0, if_pos rfl, sameW_len ws ws' h2]
      simp
  · rw [if_neg h1, decide_eq_false h1, show ws.length + xs.length + 5 = (ws.length + xs.length + 4) + 1 from rfl, vestryref18_Same.j0, if_pos rfl]
    simp
theorem eqW_l0 (ws ws' : List Int) (hw : ws.length = ws'.length) (hwn : ws.length ≤ 9223372036854775807) : ∀ (d i k : Nat), i + d = ws.length → d < k → slices_Equal_int_int.l0 k ws ws' (ws.length : Int) (i : Int) = some (sameW (ws.drop i) (ws'.drop i)) := by
  intro d
  induction d with
  | zero =>
    intro i k hi hk
    obtain ⟨k, rfl⟩ : ∃ j, k = j + 1 := ⟨k - 1, by omega⟩
    rw [slices_Equal_int_int.l0, if_neg (by omega), List.drop_eq_nil_of_le (by omega), List.drop_eq_nil_of_le (by omega)]
    rfl
  | succ d ih =>
    intro i k hi hk
    obtain ⟨k, rfl⟩ : ∃ j, k = j + 1 := ⟨k - 1, by omega⟩
    rw [slices_Equal_int_int.l0, if_pos (by omega), if_pos (by omega), if_pos (by omega), if_pos (by omega), rdWi (by omega : i < ws.length), rdWi (by omega : i < ws'.length), List.drop_eq_getElem_cons (by omega : i < ws.length), List.drop_eq_getElem_cons (by omega : i < ws'.length), sameW]
    by_cases e : ws[i] = ws'[i]
    · rw [if_pos e, wrap_next (by omega : i < ws.length) hwn, ih (i + 1) k (by omega) (by omega), decide_eq_true e]
      rfl
    · rw [if_neg e, decide_eq_false e]
      rfl
theorem eqX_l0 (xs ys : List S39) (hl : xs.length = ys.length) (hn : xs.length ≤ 9223372036854775807) : ∀ (d i k : Nat), i + d = xs.length → d < k → api_Instr.l0 k xs ys (xs.length : Int) (i : Int) = some (sameX (xs.drop i) (ys.drop i)) := by
  intro d
  induction d with
  | zero =>
    intro i k hi hk
    obtain ⟨k, rfl⟩ : ∃ j, k = j + 1 := ⟨k - 1, by omega⟩
    rw [api_Instr.l0, if_neg (by omega), List.drop_eq_nil_of_le (by omega), List.drop_eq_nil_of_le (by omega)]
    rfl
  | succ d ih =>
    intro i k hi hk
    obtain ⟨k, rfl⟩ : ∃ j, k = j + 1 := ⟨k - 1, by omega⟩
    rw [api_Instr.l0, if_pos (by omega), if_pos (by omega), if_pos (by omega), if_pos (by omega), rd39 (by omega : i < xs.length), rd39 (by omega : i < ys.length), List.drop_eq_getElem_cons (by omega : i < xs.length), List.drop_eq_getElem_cons (by omega : i < ys.length), sameX]
    show (if difI xs[i] ys[i] = true then some false else _) = _
    cases e : difI xs[i] ys[i] with
    | true => rfl
    | false =>
      rw [if_neg (by simp), wrap_next (by omega : i < xs.length) hn, ih (i + 1) k (by omega) (by omega)]
      rfl
theorem code_same (ws : List Int) (rg : Int) (xs : List S39) (ws' : List Int) (rg' : Int) (xs' : List S39) (hwn : ws.length ≤ 9223372036854775807) (hn : xs.length ≤ 9223372036854775807) : ∃ k, code_Same.f k ws rg xs ws' rg' xs' = some (sameB ws rg xs ws' rg' xs') := by
  refine ⟨ws.length + xs.length + 5, ?_⟩
  unfold code_Same.f sameB slices_Equal_int_int.f api_Instr.f
  by_cases h1 : rg = rg'
  · rw [if_pos h1, decide_eq_true h1]
    by_cases h2 : ws.length = ws'.length
    · rw [if_pos (by omega), show (0 : Int) = ((0 : Nat) : Int) from rfl, eqW_l0 ws ws' h2 hwn ws.length 0 _ (by omega) (by omega)]
      simp only [Option.bind_some, List.drop_zero]
      cases e : sameW ws ws' with
      | false => rfl
      | true =>
        rw [if_pos rfl]
        by_cases h3 : xs.length = xs'.length
        · rw [if_pos (by omega), eqX_l0 xs xs' h3 hn xs.length 0 _ (by omega) (by omega)]
          simp
        · rw [if_neg (by omega), sameX_len xs xs' h3]
          simp
    · rw [if_neg (by omega), sameW_len ws ws' h2]
      simp
  · rw [if_neg h1, decide_eq_false h1]
    simp
theorem sl_len {w : World} {A : Option Addr} {c : Nat} {l : List Int} (h : Sl w A c l) : l.length ≤ 9223372036854775807 := h.C.2.1
theorem c39_len {w : World} {A : Option Addr} {xs : List S39} (h : Kd.C k39 w A xs.length xs) : xs.length ≤ 9223372036854775807 := h.2.1
/-- A program as it is handed to a function. -/
def pgV (A0 : Option Addr) (c0 n0 : Nat) (rg : Int) (A2 : Option Addr) (c2 n2 : Nat) : Value := .agg #[.slice A0 n0 c0, .int .i64 rg, .slice A2 n2 c2]
/-- A program that is read. -/
structure Pr (w : World) (A0 : Option Addr) (c0 : Nat) (ws : List Int) (A2 : Option Addr) (c2 : Nat) (xs : List S39) : Prop where
  h0 : Sl w A0 c0 ws
  h2 : Kd.C k39 w A2 xs.length xs
  hc2 : xs.length ≤ c2
theorem Pr.since {w w' : World} {A0 : Option Addr} {c0 : Nat} {ws : List Int} {A2 : Option Addr} {c2 : Nat} {xs : List S39} (h : Pr w A0 c0 ws A2 c2 xs) (hs : Since w w') : Pr w' A0 c0 ws A2 c2 xs := ⟨hs.sl h.h0, Kd.C_below h.h2 hs.b, h.hc2⟩
theorem refSame_calls (w : World) {A0 : Option Addr} {c0 : Nat} {ws : List Int} {rg : Int} {A2 : Option Addr} {c2 : Nat} {xs : List S39} {B0 : Option Addr} {d0 : Nat} {ws' : List Int} {rg' : Int} {B2 : Option Addr} {d2 : Nat} {xs' : List S39} (h : Pr w A0 c0 ws A2 c2 xs) (g : Pr w B0 d0 ws' B2 d2 xs') :
    Calls Try.prog 9 #[.agg #[.slice A0 ws.length c0, .int .i64 rg, .slice A2 xs.length c2], .agg #[.slice B0 ws'.length d0, .int .i64 rg', .slice B2 xs'.length d2]] w fun e w' => e = .returned (.bool (sameB ws rg xs ws' rg' xs')) ∧ Since w w' := by
  obtain ⟨k, hk⟩ := ref_same ws rg xs ws' rg' xs' (sl_len h.h0) (c39_len h.h2)
  exact (vestryref18_Same.calls k A0 c0 ws rg A2 c2 xs B0 d0 ws' rg' B2 d2 xs' _ w h.h0.C h.h0.le h.h2 h.hc2 g.h0.C g.h0.le g.h2 g.hc2 hk).mono fun e w' hh => ⟨hh.1, ⟨hh.2⟩⟩
theorem codeSame_calls (w : World) {A0 : Option Addr} {c0 : Nat} {ws : List Int} {rg : Int} {A2 : Option Addr} {c2 : Nat} {xs : List S39} {B0 : Option Addr} {d0 : Nat} {ws' : List Int} {rg' : Int} {B2 : Option Addr} {d2 : Nat} {xs' : List S39} (h : Pr w A0 c0 ws A2 c2 xs) (g : Pr w B0 d0 ws' B2 d2 xs') :
    Calls Try.prog 11 #[.agg #[.slice A0 ws.length c0, .int .i64 rg, .slice A2 xs.length c2], .agg #[.slice B0 ws'.length d0, .int .i64 rg', .slice B2 xs'.length d2]] w fun e w' => e = .returned (.bool (sameB ws rg xs ws' rg' xs')) ∧ Since w w' := by
  obtain ⟨k, hk⟩ := code_same ws rg xs ws' rg' xs' (sl_len h.h0) (c39_len h.h2)
  exact (code_Same.calls k A0 c0 ws rg A2 c2 xs B0 d0 ws' rg' B2 d2 xs' _ w h.h0.C h.h0.le h.h2 h.hc2 g.h0.C g.h0.le g.h2 g.hc2 hk).mono fun e w' hh => ⟨hh.1, ⟨hh.2⟩⟩
/-- The program that stops. -/
def stopX : S39 := ⟨⟨#[115, 116, 111, 112]⟩, 0, 0, 0, ⟨#[]⟩⟩
theorem one_calls (w : World) : Calls Try.prog 18 #[] w fun e w' => ∃ A0 c0 A2 c2, e = .returned (.agg #[.slice A0 0 c0, .int .i64 0, .slice A2 1 c2]) ∧ Pg w' A0 c0 [] 0 A2 c2 [stopX] ∧ Since w w' := by
  refine (vestrylaw18_one.calls [] 0 [stopX] w rfl).mono ?_
  rintro e w' ⟨v0, v2, rfl, h0, h2, hb⟩
  obtain ⟨A0, c0, rfl, l0, hC0⟩ := Kd.R_reads h0
  obtain ⟨A2, c2, rfl, l2, hC2⟩ := Kd.R_reads h2
  refine ⟨A0, c0, A2, c2, rfl, ⟨⟨hC0, l0⟩, hC2, l2, fun x hx => ?_⟩, ⟨hb⟩⟩
  simp at hx
  subst hx
  decide

end Go.Proofs.Ytdecgknnbegobaa.Cd

namespace Go.Proofs.Ytdecgknnbegobaa.Cd
open Go.RowKit Go.Lib Go.Maps Go.Proofs.Ytdecgknnbegobaa.D Go.Proofs.YtdecgknnbegobaaW.PrintWords Go.Proofs.YtdecgknnbegobaaW.PrintLast Go.Proofs.YtdecgknnbegobaaW.PrintMore
set_option linter.unusedVariables false
set_option linter.unusedSimpArgs false

theorem chk_stop : chkB [] 0 [stopX] = true := by decide +kernel
theorem enc_stop : encL [] 0 [stopX] = [86, 66, 49, 0, 0, 1, 18, 0, 0, 0, 0] := by decide +kernel
theorem bow_bs {W w : World} {v : Value} {l : List Int} (h : Bow W w v l) : ∃ A c, v = .slice A l.length c ∧ (0 < l.length → c ≤ 9223372036854775807 → Bs w A c l) := by
  obtain ⟨A, c, hv, hl, hC⟩ := Kd.R_reads h.R
  exact ⟨A, c, hv, fun _ hc => ⟨hC, hl, hc⟩⟩
theorem bow_cells {W w : World} {v : Value} {l : List Int} (h : Bow W w v l) (hp : 0 < l.length) : ∃ g c, v = .slice (some ⟨g, 0, none⟩) l.length c ∧ Bs w (some ⟨g, 0, none⟩) c l ∧ W.heap.size ≤ g ∧ ∃ cur, w.heap[g]? = some (.cells cur 5 (0, 0)) := by
  have ho := h.own
  obtain ⟨A, c, hv, hl, hC⟩ := Kd.R_reads h.R
  rcases ho.2 with ⟨_, h1⟩ | ⟨g, cap, cur, h1, h2, h3, h4, h5, _⟩
  · omega
  · rw [h1] at hv
    injection hv with e1 e2 e3
    subst e1 e3
    exact ⟨g, cap, h1, ⟨hC, hl, by unfold maxLen at h5; omega⟩, h2, cur, h3⟩
theorem bs_conv {w : World} {A : Addr} {c : Nat} {l : List Int} (h : Bs w (some A) c l) : (convert 26 9 (.slice (some A) l.length c)).run Try.prog w = .ok (.string (strOfNums l)) w := by
  refine conv_cells w A c l fun j x hj => ?_
  have hj' := (List.getElem?_eq_some_iff.1 hj).1
  obtain ⟨ad, e, hc⟩ := Kd.at_int h.C (j : Int) (by omega) (by omega)
  injection e with e
  subst e
  rw [show ((j : Int)).toNat = j from by omega] at hc
  rw [hc]
  have : rd l (j : Int) = x := by
    obtain ⟨h1, h2⟩ := List.getElem?_eq_some_iff.1 hj
    simp [rd, h1, h2]
  rw [this]
theorem Bs.since {w w' : World} {A : Option Addr} {c : Nat} {l : List Int} (h : Bs w A c l) (hs : Since w w') : Bs w' A c l := ⟨Kd.C_below h.C hs.b, h.le, h.lim⟩

set_option maxHeartbeats 8000000 in
set_option maxRecDepth 100000 in
theorem alive_calls (W : World) : Calls Try.prog 10 #[] W fun e w' => e = .returned (.bool true) ∧ Since W w' := by
  have hE := fun (w : World) (A0 : Option Addr) (c0 : Nat) (A2 : Option Addr) (c2 : Nat) (h : Pg w A0 c0 [] 0 A2 c2 [stopX]) => encode_calls w h
  unfold EncEnd at hE
  simp only [chk_stop, if_true, enc_stop] at hE
  have HE := Aside0.mk hE
  have HDP := Aside0.mk (show decP [86, 66, 49, 0, 0, 1, 18, 0, 0, 0, 0] = .ok ([], 0, [stopX]) 11 by
    have h := decP_enc (prog_ok chk_stop (by intro x hx; simp at hx; subst hx; decide)) chk_stop
    rw [enc_stop] at h
    exact h)
  have hs : strOfNums [86, 66, 49, 0, 0, 1, 18, 0, 0, 0, 0] = ⟨#[86, 66, 49, 0, 0, 1, 18, 0, 0, 0, 0]⟩ := by decide +kernel
  have HS := Aside0.mk hs
  clear hE hs
  go_enter Try.func10, Try.ntmps10
  go_wp2_with (first
    | (go_at_call 18; go_loud (refine (one_calls _).mono ?_; rintro e w1 ⟨A0, c0, A2, c2, rfl, hp1, hs1⟩; have HP1 := Aside0.mk hp1; have S1 := Aside0.mk hs1; clear hp1 hs1))
    | (go_at_call 7; go_loud (refine (HE.out w1 A0 c0 A2 c2 HP1.out).mono ?_; rintro e w2 ⟨v, rfl, hb⟩; obtain ⟨g, cb, hv, hB, _, _⟩ := bow_cells hb (by decide); subst hv; have HB := Aside0.mk hB; have S2 := Aside0.mk (S1.out.trans hb.since); clear hb hB))
    | (go_at_call 8; go_loud (have hd := decode_calls w2 HB.out (by decide); rw [HDP.out] at hd; refine hd.mono ?_; clear hd; rintro e w3 ⟨hs3, vW, vI, rfl, ho1, ho2⟩; obtain ⟨B0, d0, hv0, hS0⟩ := own3_Sl ho1; obtain ⟨B2, d2, hv2, hl2, hC2⟩ := own39_C ho2; subst hv0 hv2; have HR3 := Aside0.mk (Pr.mk hS0 hC2 hl2); have HB3 := Aside0.mk (HB.out.since hs3); have S3 := Aside0.mk (S2.out.trans hs3); clear hs3 ho1 ho2 hS0 hC2 hl2)))
  obtain ⟨b3, hb3⟩ : ∃ b, b = w3.heap.size := ⟨_, rfl⟩
  obtain ⟨w4, hw4⟩ : ∃ w4, w4 = (w3.alloc (.cells #[.slice B0 0 d0, .int .i64 0, .slice B2 1 d2] 25)).alloc (.cells #[.int .i64 0, .int .i64 0] 31) := ⟨_, rfl⟩
  have s34 : Since w3 w4 := by rw [hw4]; exact ((Since.refl w3).alloc _).alloc _
  have h3 : w4.heap[b3]? = some (.cells #[.slice B0 0 d0, .int .i64 0, .slice B2 1 d2] 25 (0, 0)) := by
    rw [hw4, hb3]; exact (Below.heap_alloc _ _ _ (by simp)).trans (heap_alloc_new w3 _)
  have h4 : w4.heap[b3 + 1]? = some (.cells #[.int .i64 0, .int .i64 0] 31 (0, 0)) := by
    have := heap_alloc_new (w3.alloc (.cells #[.slice B0 0 d0, .int .i64 0, .slice B2 1 d2] 25)) (.cells #[.int .i64 0, .int .i64 0] 31)
    rw [World.size_alloc] at this
    rw [hw4, hb3]; exact this
  rw [← hw4, ← hb3]
  have HCC := Aside0.mk (show ∀ w', Since w4 w' → ((w'.cell? ⟨b3, 0, none⟩ = some (.slice B0 0 d0) ∧ w'.cell? ⟨b3, 1, none⟩ = some (.int .i64 0) ∧ w'.cell? ⟨b3, 2, none⟩ = some (.slice B2 1 d2)) ∧ (w'.cell? ⟨b3 + 1, 0, none⟩ = some (.int .i64 0) ∧ w'.cell? ⟨b3 + 1, 1, none⟩ = some (.int .i64 0)) ∧ (convert 26 9 (.slice (some ⟨g, 0, none⟩) 11 cb)).run Try.prog w' = .ok (.string ⟨#[86, 66, 49, 0, 0, 1, 18, 0, 0, 0, 0]⟩) w') ∧ Since w4 w' from fun w' hs => by
    have g3 := Cd.blk hs.b h3
    have g4 := Cd.blk hs.b h4
    refine ⟨⟨⟨(cell_of_heap g3 0).trans rfl, (cell_of_heap g3 1).trans rfl, (cell_of_heap g3 2).trans rfl⟩, ⟨(cell_of_heap g4 0).trans rfl, (cell_of_heap g4 1).trans rfl⟩, ?_⟩, hs⟩
    have := bs_conv (HB3.out.since (s34.trans hs))
    rw [HS.out] at this
    exact this)
  have HR4 := Aside0.mk (HR3.out.since s34)
  have S4 := Aside0.mk (S3.out.trans s34)
  have hS1 := (Since.refl w4).drew
  have hk0 := (HCC.out _ hS1).1
  obtain ⟨⟨j0, j1, j2⟩, ⟨j3, j4⟩, j5⟩ := hk0
  clear hw4 hb3 h3 h4 s34
  go_region_held3 (fun w' => ((w'.cell? ⟨b3, 0, none⟩ = some (.slice B0 0 d0) ∧ w'.cell? ⟨b3, 1, none⟩ = some (.int .i64 0) ∧ w'.cell? ⟨b3, 2, none⟩ = some (.slice B2 1 d2)) ∧ (w'.cell? ⟨b3 + 1, 0, none⟩ = some (.int .i64 0) ∧ w'.cell? ⟨b3 + 1, 1, none⟩ = some (.int .i64 0)) ∧ (convert 26 9 (.slice (some ⟨g, 0, none⟩) 11 cb)).run Try.prog w' = .ok (.string ⟨#[86, 66, 49, 0, 0, 1, 18, 0, 0, 0, 0]⟩) w') ∧ Since w4 w')
    (exact HCC.out _ (by first | assumption | (go_split_ands; first | assumption | exact Since.trans (by assumption) (by assumption))))
    (first
      | (go_at_call 18; (with_reducible refine (one_calls _).mono ?_); rintro e w5 ⟨E0, e0, E2, e2, rfl, hp5, hs5⟩; have HP5 := Aside0.mk hp5; clear hp5)
      | (go_at_call 9; (have hss : Since w4 w5 := by (go_split_ands; assumption)); (have hq := refSame_calls (rg := 0) (rg' := 0) w5 (HR4.out.since hss) (Pr.mk HP5.out.h0 HP5.out.h2 HP5.out.hc2)); rw [sameB_self] at hq; refine hq.mono ?_; clear hq hss; rintro e w6 ⟨rfl, hs6⟩)
      | (go_at_call 12; (have hss : Since w4 w6 := by (go_split_ands; assumption)); (have hq := check_calls w6 B0 d0 [] (HR4.out.since hss).h0 0 B2 d2 [stopX] (HR4.out.since hss).h2 (HR4.out.since hss).hc2 (by intro x hx; simp at hx; subst hx; decide)); rw [chk_stop] at hq; refine hq.mono ?_; clear hq hss; rintro e w7 ⟨rfl, hs7⟩))
  have hss : Since w4 w7 := by go_split_ands; assumption
  have S7 := Aside0.mk (S4.out.trans hss)
  clear hs5 hs6 hs7 hss
  go_wp2_with fail
  go_ret
  exact ⟨rfl, S7.out⟩

end Go.Proofs.Ytdecgknnbegobaa.Cd

namespace Go.Proofs.Ytdecgknnbegobaa.Cd
open Go.ChangeShapes Go.WideShapes Go.ChangeAt Go.RowKit Go.Joins Go.Proofs.Ytdecgknnbegobaa.D Go.Proofs.YtdecgknnbegobaaW Go.Proofs.YtdecgknnbegobaaW.PrintWords
set_option linter.unusedVariables false
set_option linter.unusedSimpArgs false

section
variable {H : Type} {enc : TypeId × Value → H} {W : World} {base b0 : Nat} {held : Bool}
set_option maxRecDepth 100000 in
theorem sl_of_trod {fuel : Nat} {a : Option Addr} {len cap : Nat} {y : DataW H × List MemPlace} (hf : DataW.trod enc Try.prog W base (fun _ => true) held fuel 22 [.slice a len cap] = some y) :
    ∃ l : List Int, len = l.length ∧ Sl W a cap l := by
  have row : (a = none ∧ len = 0 ∧ cap = 0 ∧ ([] : List Int) = []) ∨ ∃ zs : List Int, ∃ x, a = some x ∧ len ≤ cap ∧ cap ≤ maxLen ∧ zs.length = cap ∧ (∀ i, i < zs.length → W.cell? (x.add i) = some (.int .i64 (zs.getD i 0))) ∧ ∀ n ∈ zs, (Lit.int .i64 n).wf = true := by
    rcases open_ints Try.underlying22 Try.underlying3 (by kernel_rfl) hf with ⟨hcs, _⟩ | ⟨x, l, c, zs, hcs, _, hl, hm, hz, _, hcell, hwz⟩
    · simp at hcs
      obtain ⟨rfl, rfl, rfl⟩ := hcs
      exact .inl ⟨rfl, rfl, rfl, rfl⟩
    · simp at hcs
      obtain ⟨rfl, rfl, rfl⟩ := hcs
      exact .inr ⟨zs, _, rfl, hl, hm, by simpa using hz, hcell, hwz⟩
  have row2 : ∃ zs : List Int, (a = none ∧ len = 0 ∧ cap = 0 ∧ zs = []) ∨ ∃ x, a = some x ∧ len ≤ cap ∧ cap ≤ maxLen ∧ zs.length = cap ∧ (∀ i, i < zs.length → W.cell? (x.add i) = some (.int .i64 (zs.getD i 0))) ∧ ∀ n ∈ zs, (Lit.int .i64 n).wf = true := by
    rcases row with h | ⟨zs, h⟩
    · exact ⟨[], .inl h⟩
    · exact ⟨zs, .inr h⟩
  obtain ⟨zs, h⟩ := row2
  obtain ⟨l, e, hr, hm, hw, hc⟩ := ReadsInt.ofRowC h
  subst e
  exact ⟨l, rfl, ⟨Kd.C_of_reads (d := (0 : Int)) (h1 := fun _ => rfl) hr, hc⟩⟩
theorem wf64 {x : Int} (h : (Lit.int .i64 x).wf = true) : -9223372036854775808 ≤ x ∧ x ≤ 9223372036854775807 := by
  simp [Lit.wf, IntKind.min, IntKind.max, IntKind.signed, IntKind.bits] at h
  omega
theorem wf8 {x : Int} (h : (Lit.int .u8 x).wf = true) : 0 ≤ x ∧ x ≤ 255 := by
  simp [Lit.wf, IntKind.min, IntKind.max, IntKind.signed, IntKind.bits] at h
  omega
set_option maxRecDepth 100000 in
theorem open_bytes {v : Value} {d : DataW H} {p : List MemPlace} (hv : Value.okWide Try.prog W .any b0 26 v) (h : DataW.Trod enc Try.prog W base (fun _ => true) held 26 v d p) :
    ∃ A c l, v = .slice A l.length c ∧ Bs W A c l ∧ ∀ x ∈ l, 0 ≤ x ∧ x ≤ 255 := by
  obtain ⟨a, len, cap, rfl⟩ := okWide_slice Try.underlying26 hv
  obtain ⟨fuel, hf⟩ := h
  have row : (a = none ∧ len = 0 ∧ cap = 0 ∧ ([] : List Int) = []) ∨ ∃ zs : List Int, ∃ x, a = some x ∧ len ≤ cap ∧ cap ≤ maxLen ∧ zs.length = cap ∧ (∀ i, i < zs.length → W.cell? (x.add i) = some (.int .u8 (zs.getD i 0))) ∧ ∀ n ∈ zs, (Lit.int .u8 n).wf = true := by
    rcases open_ints Try.underlying26 Try.underlying5 (by kernel_rfl) hf with ⟨hcs, _⟩ | ⟨x, l, c, zs, hcs, _, hl, hm, hz, _, hcell, hwz⟩
    · simp [Value.cells] at hcs
      obtain ⟨rfl, rfl, rfl⟩ := hcs
      exact .inl ⟨rfl, rfl, rfl, rfl⟩
    · simp [Value.cells] at hcs
      obtain ⟨rfl, rfl, rfl⟩ := hcs
      exact .inr ⟨zs, _, rfl, hl, hm, by simpa using hz, hcell, hwz⟩
  have row2 : ∃ zs : List Int, (a = none ∧ len = 0 ∧ cap = 0 ∧ zs = []) ∨ ∃ x, a = some x ∧ len ≤ cap ∧ cap ≤ maxLen ∧ zs.length = cap ∧ (∀ i, i < zs.length → W.cell? (x.add i) = some (.int .u8 (zs.getD i 0))) ∧ ∀ n ∈ zs, (Lit.int .u8 n).wf = true := by
    rcases row with h | ⟨zs, h⟩
    · exact ⟨[], .inl h⟩
    · exact ⟨zs, .inr h⟩
  have hcap : cap ≤ 9223372036854775807 := by
    rcases row with ⟨_, _, h, _⟩ | ⟨_, _, _, _, h, _⟩
    · omega
    · unfold maxLen at h; omega
  obtain ⟨zs, h⟩ := row2
  obtain ⟨l, e, hr, hm, hw, hc⟩ := ReadsInt.ofRowC h
  subst e
  exact ⟨a, cap, l, rfl, ⟨Kd.C_of_reads (d := (0 : Int)) (h1 := fun _ => rfl) hr, hc, hcap⟩, fun x hx => wf8 (hw x hx)⟩
theorem weights_all {P : Program} {e : TypeId} {d : DataW H} : ∀ {l : List (DataW H)}, d ∈ l → ∀ x ∈ d.weights P e, x ∈ DataW.weightsAll P e l := by
  intro l
  induction l with
  | nil => intro h; simp at h
  | cons a l ih =>
    intro h x hx
    rw [DataW.weightsAll]
    rcases List.mem_cons.1 h with rfl | h
    · exact List.mem_append.2 (.inl hx)
    · exact List.mem_append.2 (.inr (ih h x hx))
theorem trod_struct5 {P : Program} {w : World} {sp : Nat → Bool} {t : TypeId} {f0 f1 f2 f3 f4 : Field} {fuel : Nat} {cs : List Value} {x : DataW H × List MemPlace} (ht : P.underlying t = some (.struct #[f0, f1, f2, f3, f4])) (h : DataW.trod enc P w base sp held fuel t cs = some x) :
    ∃ y0 y1 y2 y3 y4 n, x.1 = .agg [y0.1, y1.1, y2.1, y3.1, y4.1] ∧ cs.length = P.cellsOf t ∧ DataW.trod enc P w base sp held n f0.type ((cs.drop f0.offset).take (P.cellsOf f0.type)) = some y0 ∧
      DataW.trod enc P w base sp held n f1.type ((cs.drop f1.offset).take (P.cellsOf f1.type)) = some y1 ∧ DataW.trod enc P w base sp held n f2.type ((cs.drop f2.offset).take (P.cellsOf f2.type)) = some y2 ∧
      DataW.trod enc P w base sp held n f3.type ((cs.drop f3.offset).take (P.cellsOf f3.type)) = some y3 ∧ DataW.trod enc P w base sp held n f4.type ((cs.drop f4.offset).take (P.cellsOf f4.type)) = some y4 := by
  obtain ⟨xs, n, _, rfl, hl, hlen, hf⟩ := DataW.trod_struct ht h
  match xs, hlen with
  | [y0, y1, y2, y3, y4], _ => exact ⟨y0, y1, y2, y3, y4, n, by simp, hl, by simpa using hf 0 f0 rfl, by simpa using hf 1 f1 rfl, by simpa using hf 2 f2 rfl, by simpa using hf 3 f3 rfl, by simpa using hf 4 f4 rfl⟩
set_option maxRecDepth 100000 in
theorem ins_of_trod {fuel : Nat} {a : Option Addr} {len cap : Nat} {d : DataW H} {ps : List MemPlace} (hf : DataW.trod enc Try.prog W base (fun _ => true) held fuel 23 [.slice a len cap] = some (d, ps)) (hz : ∀ x ∈ d.weights Try.prog 23, x ≤ reachBytes) :
    ∃ xs : List S39, len = xs.length ∧ xs.length ≤ cap ∧ Kd.C k39 W a xs.length xs ∧ ∀ x ∈ xs, (-9223372036854775808 ≤ x.f1 ∧ x.f1 ≤ 9223372036854775807) ∧ (-9223372036854775808 ≤ x.f2 ∧ x.f2 ≤ 9223372036854775807) ∧ (-9223372036854775808 ≤ x.f3 ∧ x.f3 ≤ 9223372036854775807) ∧ x.f4.size ≤ 9223372036854775800 := by
  rcases Go.Deep.open_slice Try.underlying23 hf with ⟨hcs, _⟩ | ⟨a', l', c', m, n, D, Pl, hcs, _, hl, hm, hmm, hdd, hx⟩
  · simp at hcs
    obtain ⟨rfl, rfl, rfl⟩ := hcs
    exact ⟨[], rfl, Nat.le_refl _, ⟨rfl, by simp, fun h => absurd h (Nat.lt_irrefl _)⟩, by simp⟩
  · simp at hcs
    obtain ⟨rfl, rfl, rfl⟩ := hcs
    simp only [if_true] at hmm
    subst hmm
    have hd' : d = .slice ((List.range len).map D) ((List.range (m - len)).map fun j => D (len + j)) := by
      injection hdd
    have hc39 : Try.prog.cellsOf 39 = 5 := by kernel_rfl
    have hc3 : Try.prog.cellsOf 3 = 1 := by kernel_rfl
    have hc9 : Try.prog.cellsOf 9 = 1 := by kernel_rfl
    rw [hd', DataW.weights, Try.underlying23] at hz
    have each : ∀ r, r < len → ∃ x : S39, (∀ i u, (cells39 x)[i]? = some u → W.cell? (a'.add (r * 5 + i)) = some u) ∧ ((-9223372036854775808 ≤ x.f1 ∧ x.f1 ≤ 9223372036854775807) ∧ (-9223372036854775808 ≤ x.f2 ∧ x.f2 ≤ 9223372036854775807) ∧ (-9223372036854775808 ≤ x.f3 ∧ x.f3 ≤ 9223372036854775807) ∧ x.f4.size ≤ 9223372036854775800) := by
      intro r hr
      obtain ⟨cs, h1, h2⟩ := hx r (by omega)
      rw [hc39] at h1
      obtain ⟨_, hlen, hcell⟩ := World.cells?_some h1
      obtain ⟨y0, y1, y2, y3, y4, n', hy, _, e0, e1, e2, e3, e4⟩ := trod_struct5 Try.underlying39 h2
      match cs, hlen with
      | [v0, v1, v2, v3, v4], _ =>
        simp only [hc3, hc9, List.drop_zero, List.drop_succ_cons, List.take_succ_cons, List.take_zero] at e0 e1 e2 e3 e4
        obtain ⟨s0, k0, _, _⟩ := DataW.trod_string Try.underlying9 e0
        obtain ⟨n1, k1, _, w1⟩ := DataW.trod_int Try.underlying3 e1
        obtain ⟨n2, k2, _, w2⟩ := DataW.trod_int Try.underlying3 e2
        obtain ⟨n3, k3, _, w3⟩ := DataW.trod_int Try.underlying3 e3
        obtain ⟨s4, k4, g4, w4⟩ := DataW.trod_string Try.underlying9 e4
        simp only [List.cons.injEq, and_true] at k0 k1 k2 k3 k4
        subst k0 k1 k2 k3 k4
        refine ⟨⟨s0, n1, n2, n3, s4⟩, fun i u hu => ?_, wf64 w1, wf64 w2, wf64 w3, ?_⟩
        · have hi : i < 5 := by have := (List.getElem?_eq_some_iff.1 hu).1; simpa [cells39] using this
          have hcl := hcell i (by simpa using hi)
          rw [show a'.add (r * 5 + i) = (a'.add (r * 5)).add i from by rw [Addr.add_add]]
          rw [hcl]
          exact hu
        · have hw : D r = (DataW.agg [y0.1, y1.1, y2.1, y3.1, y4.1]) := hy
          have h5 := hz s4.data.toList.length (List.mem_cons.2 (.inr (List.mem_append.2 (.inl (weights_all (List.mem_map.2 ⟨r, List.mem_range.2 hr, rfl⟩) _ (by
            rw [hw, DataW.weights, Try.underlying39]
            refine DataW.weights_mem_each (j := 4) rfl rfl _ ?_
            rw [g4]
            simp [DataW.weights]))))))
          rw [data_length] at h5
          unfold reachBytes at h5
          show s4.size ≤ _
          omega
    haveI : Inhabited S39 := ⟨stopX⟩
    obtain ⟨f, hf'⟩ := Go.Deep.choose_lt each
    have hL : ((List.range len).map f).length = len := by simp
    refine ⟨(List.range len).map f, hL.symm, by rw [hL]; exact hl, ⟨by rw [hL], by rw [hL]; unfold maxLen at hm; omega, fun _ => ⟨a', rfl, fun j p hj => ?_⟩⟩, fun x hx => ?_⟩
    · have hjl : j < len := by have := (List.getElem?_eq_some_iff.1 hj).1; simpa using this
      rw [List.getElem?_map, List.getElem?_range hjl] at hj
      obtain rfl : f j = p := by simpa using hj
      exact ⟨cells39 (f j), rfl, k39_mk W (f j), fun i u hu => (hf' j hjl).1 i u hu⟩
    · obtain ⟨j, hj, rfl⟩ := List.mem_map.1 hx
      exact (hf' j (List.mem_range.1 hj)).2
set_option maxRecDepth 100000 in
theorem open_code {v : Value} {d : DataW H} {p : List MemPlace} {ts : List TypeId} {ds : List (DataW H)} {j : Nat} (hsz : (DataW.weightsEach Try.prog ts ds).all (· ≤ reachBytes) = true) (ht : ts[j]? = some 25) (hd : ds[j]? = some d) (hv : Value.okWide Try.prog W .any b0 25 v) (h : DataW.Trod enc Try.prog W base (fun _ => true) held 25 v d p) :
    ∃ A0 c0 ws rg A2 c2 xs, v = .agg #[.slice A0 (List.length ws) c0, .int .i64 rg, .slice A2 (List.length xs) c2] ∧ Pg W A0 c0 ws rg A2 c2 xs := by
  obtain ⟨cs, rfl, hs⟩ := okWide_struct Try.underlying25 hv
  have hs3 : cs.size = 3 := hs.trans (by kernel_rfl)
  obtain ⟨v0, v1, v2, rfl⟩ : ∃ v0 v1 v2, cs = #[v0, v1, v2] := by
    obtain ⟨l⟩ := cs
    match l, hs3 with
    | [a, b, c], _ => exact ⟨a, b, c, rfl⟩
  obtain ⟨fuel, hf⟩ := h
  have hz : ∀ x ∈ d.weights Try.prog 25, x ≤ reachBytes := fun x hx => of_decide_eq_true ((List.all_eq_true.1 hsz) x (DataW.weights_mem_each ht hd x hx))
  have hc3 : Try.prog.cellsOf 3 = 1 := by kernel_rfl
  have hc22 : Try.prog.cellsOf 22 = 1 := by kernel_rfl
  have hc23 : Try.prog.cellsOf 23 = 1 := by kernel_rfl
  obtain ⟨y0, y1, y2, n', hy, _, e0, e1, e2⟩ := Go.Deep.trod_struct3 Try.underlying25 hf
  simp only [Value.cells, hc3, hc22, hc23, List.drop_zero, List.drop_succ_cons, List.take_succ_cons, List.take_zero] at e0 e1 e2
  obtain ⟨A0, l0, c0, k0⟩ := slice_form Try.underlying22 e0
  obtain ⟨rg, k1, _, _⟩ := DataW.trod_int Try.underlying3 e1
  obtain ⟨A2, l2, c2, k2⟩ := slice_form Try.underlying23 e2
  simp only [List.cons.injEq, and_true] at k0 k1 k2
  subst k0 k1 k2
  obtain ⟨ws, rfl, h0⟩ := sl_of_trod e0
  have hw : d = DataW.agg [y0.1, y1.1, y2.1] := by injection hy
  obtain ⟨xs, rfl, hl, hC, hx⟩ := ins_of_trod (d := y2.1) (ps := y2.2) e2 (fun x hx => hz x (by
    rw [hw, DataW.weights, Try.underlying25]
    exact DataW.weights_mem_each (j := 2) rfl rfl x hx))
  exact ⟨A0, c0, ws, rg, A2, c2, xs, rfl, h0, hC, hl, hx⟩
end

end Go.Proofs.Ytdecgknnbegobaa.Cd
