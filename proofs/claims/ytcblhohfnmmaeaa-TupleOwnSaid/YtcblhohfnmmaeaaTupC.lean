/- What the tuple package's functions answer, as contracts: in plain lists, with no rounds. -/
import Derived.Test.YtcblhohfnmmaeaaTupB
namespace Go.Proofs.Ytcblhohfnmmaeaa.Tup
open Go.RowKit Go.Proofs.Ytcblhohfnmmaeaa.F Go.Proofs.YtcblhohfnmmaeaaW.PrintWords Go.Proofs.YtcblhohfnmmaeaaW.PrintLast Go.Proofs.YtcblhohfnmmaeaaW.PrintMore
set_option linter.unusedVariables false
set_option linter.unusedSimpArgs false

/-- A slice of whole numbers that is read. -/
structure Sl (w : World) (A : Option Addr) (c : Nat) (l : List Int) : Prop where
  C : Kd.C (Kd.int .i64) w A l.length l
  le : l.length ≤ c
theorem Sl.below {w w1 : World} {A : Option Addr} {c : Nat} {l : List Int} (h : Sl w A c l) (hb : Below w.heap.size w w1) : Sl w1 A c l := ⟨Kd.C_below h.C hb, h.le⟩
theorem Sl.alloc {w : World} {A : Option Addr} {c : Nat} {l : List Int} (h : Sl w A c l) (o : Obj) : Sl (w.alloc o) A c l := ⟨Kd.C_alloc h.C o, h.le⟩
theorem Sl.drewN {w : World} {A : Option Addr} {c : Nat} {l : List Int} (h : Sl w A c l) (n : Nat) : Sl (w.drewN n) A c l := ⟨Kd.C_drewN h.C n, h.le⟩
theorem Sl.drew {w : World} {A : Option Addr} {c : Nat} {l : List Int} (h : Sl w A c l) : Sl w.drew A c l := ⟨Kd.C_drew h.C, h.le⟩
theorem Sl.V {w : World} {A : Option Addr} {c : Nat} {l : List Int} (h : Sl w A c l) : Kd.V (Kd.int .i64) 3 w w.heap.size (fun k => k < w.heap.size) (.slice A l.length c) l := Kd.V_mk h.le (Kd.C_F (Kd.heap_int .i64) h.C)
theorem Sl.small {w : World} {A : Option Addr} {c : Nat} {l : List Int} (h : Sl w A c l) : l.length ≤ 9223372036854775807 := Kd.F_max (Kd.C_F (Kd.heap_int .i64) h.C)

theorem right_calls (A0 : Option Addr) (c0 : Nat) (o : List Int) (w : World) (h0 : Sl w A0 c0 o) :
    Calls Try.prog 9 #[.slice A0 o.length c0] w fun e w' => e = .returned (.bool (decide (Rt o))) ∧ Drawn0 w w' :=
  tuple_Right.calls (o.length + 1) _ _ o _ w h0.C h0.le (right_is _ o (by omega))
theorem cmp_calls (A0 : Option Addr) (c0 : Nat) (o : List Int) (A1 : Option Addr) (c1 : Nat) (a : List Int) (A2 : Option Addr) (c2 : Nat) (b : List Int) (w : World) (h0 : Sl w A0 c0 o) (h1 : Sl w A1 c1 a) (h2 : Sl w A2 c2 b) :
    Calls Try.prog 11 #[.slice A0 o.length c0, .slice A1 a.length c1, .slice A2 b.length c2] w fun e w' => e = .returned (.int .i64 (cmpS o a b)) ∧ Below w.heap.size w w' :=
  tuple_Cmp.calls (o.length + 4) _ _ o _ _ _ a _ _ _ b _ w h0.C h0.le h1.V h2.V (cmp_is _ o a b (by omega))
theorem head_calls (A0 : Option Addr) (c0 : Nat) (o : List Int) (k : Int) (A1 : Option Addr) (c1 : Nat) (a : List Int) (A2 : Option Addr) (c2 : Nat) (b : List Int) (w : World) (h0 : Sl w A0 c0 o) (h1 : Sl w A1 c1 a) (h2 : Sl w A2 c2 b) :
    Calls Try.prog 19 #[.slice A0 o.length c0, .int .i64 k, .slice A1 a.length c1, .slice A2 b.length c2] w fun e w' => e = .returned (.bool (headS o k a b)) ∧ Below w.heap.size w w' :=
  tuple_Head.calls (o.length + 4) _ _ o _ _ _ _ a _ _ _ b _ w h0.C h0.le h1.V h2.V (head_is _ o k a b (by omega))
theorem same_calls (A0 : Option Addr) (c0 : Nat) (a : List Int) (A1 : Option Addr) (c1 : Nat) (b : List Int) (w : World) (h0 : Sl w A0 c0 a) (h1 : Sl w A1 c1 b) (hn : a.length ≤ 9223372036854775806) :
    Calls Try.prog 12 #[.slice A0 a.length c0, .slice A1 b.length c1] w fun e w' => e = .returned (.bool (decide (a = b))) ∧ Drawn0 w w' :=
  vestryref04_Same.calls (a.length + 1) _ _ a _ _ b _ w h0.C h0.le h1.C h1.le (same_is _ a b hn (by omega))
theorem alive_calls (w : World) : Calls Try.prog 10 #[] w fun e w' => e = .returned (.bool true) ∧ Below w.heap.size w w' :=
  vestrylaw04_alive.calls 20 true w (alive_is 20 (by omega))

end Go.Proofs.Ytcblhohfnmmaeaa.Tup
