/- The plain law of TupleCovers. -/
import Derived.Test.YtcblhohfnmmaeaaTupD
namespace Go.Proofs.Ytcblhohfnmmaeaa.Tup
open Go.RowKit Go.Proofs.Ytcblhohfnmmaeaa.F Go.Proofs.YtcblhohfnmmaeaaW.PrintWords Go.Proofs.YtcblhohfnmmaeaaW.PrintLast Go.Proofs.YtcblhohfnmmaeaaW.PrintMore
theorem covers_pure : vestrylaw04_TupleCovers.Pure := by
  intro o cols l hm hb hw hc hm2 hb2 hw2
  refine ⟨2 * o.length + l.length + 40, ?_⟩
  unfold vestrylaw04_TupleCovers.f
  rw [cover_is _ o cols (by omega), rcover_is _ o cols (by omega) (by omega), cols_is _ l (by omega) (by omega), rcols_is _ l (by omega) (by omega)]
  simp only [Option.bind_some]
  rw [if_pos trivial, if_pos (by simp), if_pos trivial, if_pos trivial, alive_is _ (by omega)]
  rfl
theorem covers_law_calls (A0 : Option Addr) (c0 : Nat) (o : List Int) {W : World} (h0 : Sl W A0 c0 o) (f0 : ∀ x ∈ o, (Lit.int .i64 x).wf = true) (y0 : o.length * 8 ≤ 140737488351232) (z : Int) (f1 : (Lit.int .i64 z).wf = true) (A2 : Option Addr) (c2 : Nat) (l : List Int) (h2 : Sl W A2 c2 l) (f2 : ∀ x ∈ l, (Lit.int .i64 x).wf = true) (y2 : l.length * 8 ≤ 140737488351232) (w : World) (hw : w = W) :
    Calls Try.prog 4 #[.slice A0 o.length c0, .int .i64 z, .slice A2 l.length c2] w fun e w' => e = .returned (.bool true) ∧ Below w.heap.size w w' := by
  subst hw
  obtain ⟨k, hk⟩ := covers_pure o z l (by unfold maxLen; omega) y0 f0 f1 (by unfold maxLen; omega) y2 f2
  exact vestrylaw04_TupleCovers.calls k _ _ o z _ _ l true w h0.C h0.le h2.C h2.le hk
end Go.Proofs.Ytcblhohfnmmaeaa.Tup
