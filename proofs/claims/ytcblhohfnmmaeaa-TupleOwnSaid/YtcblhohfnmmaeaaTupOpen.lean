/- How the laws' arguments are opened: a slice of numbers, an array of two or three such slices. -/
import Derived.Test.YtcblhohfnmmaeaaTupC
import Derived.ProofKit
import Derived.OpenShut
import Derived.ChangeOld
import Derived.Lib.SmallJoins
import Derived.Laws.IdiomArrays
namespace Go.Proofs.Ytcblhohfnmmaeaa.Tup
open Go.ChangeShapes Go.WideShapes Go.ChangeAt Go.RowKit Go.Joins Go.Proofs.Ytcblhohfnmmaeaa.F Go.Proofs.YtcblhohfnmmaeaaW.PrintWords
set_option linter.unusedVariables false

section
variable {H : Type} {enc : TypeId × Value → H} {W : World} {base b0 : Nat} {held : Bool}
theorem sl_of_trod {fuel : Nat} {a : Option Addr} {len cap : Nat} {y : DataW H × List MemPlace} (hf : DataW.trod enc Try.prog W base (fun _ => true) held fuel 22 [.slice a len cap] = some y) :
    ∃ l : List Int, len = l.length ∧ Sl W a cap l ∧ ∀ x ∈ l, (Lit.int .i64 x).wf = true := by
  have row : (a = none ∧ len = 0 ∧ cap = 0 ∧ ([] : List Int) = []) ∨ ∃ zs : List Int, ∃ x, a = some x ∧ len ≤ cap ∧ cap ≤ maxLen ∧ zs.length = cap ∧ (∀ i, i < zs.length → W.cell? (x.add i) = some (.int .i64 (zs.getD i 0))) ∧ ∀ n ∈ zs, (Lit.int .i64 n).wf = true := by
    rcases open_ints Try.underlying22 Try.underlying3 (by kernel_rfl) hf with ⟨hcs, _⟩ | ⟨x, l, c, zs, hcs, _, hl, hm, hz, _, hcell, hwz⟩
    · simp at hcs
      obtain ⟨rfl, rfl, rfl⟩ := hcs
      exact .inl ⟨rfl, rfl, rfl, rfl⟩
    · simp at hcs
      obtain ⟨rfl, rfl, rfl⟩ := hcs
      exact .inr ⟨zs, _, rfl, hl, hm, by simpa using hz, hcell, hwz⟩
  have row2 : ∃ zs : List Int, (a = none ∧ len = 0 ∧ cap = 0 ∧ zs = []) ∨ ∃ x, a = some x ∧ len ≤ cap ∧ cap ≤ maxLen ∧ zs.length = cap ∧ (∀ i, i < zs.length → W.cell? (x.add i) = some (.int .i64 (zs.getD i 0))) ∧ ∀ n ∈ zs, (Lit.int .i64 n).wf = true := by
    rcases row with h | ⟨zs, h⟩
    · exact ⟨[], .inl h⟩
    · exact ⟨zs, .inr h⟩
  obtain ⟨zs, h⟩ := row2
  obtain ⟨l, e, hr, hm, hw, hc⟩ := ReadsInt.ofRowC h
  subst e
  exact ⟨l, rfl, ⟨Kd.C_of_reads (d := (0 : Int)) (h1 := fun _ => rfl) hr, hc⟩, hw⟩
theorem open_sl {v : Value} {d : DataW H} {p : List MemPlace} (hv : Value.okWide Try.prog W .any b0 22 v) (h : DataW.Trod enc Try.prog W base (fun _ => true) held 22 v d p) :
    ∃ A c l, v = .slice A l.length c ∧ Sl W A c l ∧ ∀ x ∈ l, (Lit.int .i64 x).wf = true := by
  obtain ⟨a, len, cap, rfl⟩ := okWide_slice Try.underlying22 hv
  obtain ⟨fuel, hf⟩ := h
  obtain ⟨l, rfl, hs, hw⟩ := sl_of_trod hf
  exact ⟨a, cap, l, rfl, hs, hw⟩
theorem okWide_array {t e : TypeId} {n : Nat} {r : Reach} {v : Value} (ht : Try.prog.underlying t = some (.array n e)) (h : Value.okWide Try.prog W r b0 t v) : ∃ cs, v = .agg cs ∧ cs.size = Try.prog.cellsOf t := by
  unfold Value.okWide at h
  rw [ht] at h
  obtain ⟨cs, rfl, hs, _⟩ := h
  exact ⟨cs, rfl, hs⟩
theorem open_arr3 {v : Value} {d : DataW H} {p : List MemPlace} (hv : Value.okWide Try.prog W .any b0 23 v) (h : DataW.Trod enc Try.prog W base (fun _ => true) held 23 v d p) :
    ∃ A1 c1 l1 A2 c2 l2 A3 c3 l3, v = .agg #[.slice A1 l1.length c1, .slice A2 l2.length c2, .slice A3 l3.length c3] ∧ Sl W A1 c1 l1 ∧ Sl W A2 c2 l2 ∧ Sl W A3 c3 l3 := by
  obtain ⟨cs, rfl, hs⟩ := okWide_array Try.underlying23 hv
  obtain ⟨x, y, z, rfl⟩ := array3 (hs.trans (by kernel_rfl))
  obtain ⟨fuel, hf⟩ := h
  obtain ⟨y0, y1, y2, n, _, h0, h1, h2⟩ := trod_array3 Try.underlying23 (by kernel_rfl) hf
  obtain ⟨A1, m1, c1, e1⟩ := slice_form Try.underlying22 h0
  obtain ⟨A2, m2, c2, e2⟩ := slice_form Try.underlying22 h1
  obtain ⟨A3, m3, c3, e3⟩ := slice_form Try.underlying22 h2
  simp only [List.cons.injEq, and_true] at e1 e2 e3
  subst e1 e2 e3
  obtain ⟨l1, rfl, s1, _⟩ := sl_of_trod h0
  obtain ⟨l2, rfl, s2, _⟩ := sl_of_trod h1
  obtain ⟨l3, rfl, s3, _⟩ := sl_of_trod h2
  exact ⟨A1, c1, l1, A2, c2, l2, A3, c3, l3, rfl, s1, s2, s3⟩
theorem trod_array2 {t e : TypeId} {fuel : Nat} {c0 c1 : Value} {x : DataW H × List MemPlace} (ht : Try.prog.underlying t = some (.array 2 e)) (hce : Try.prog.cellsOf e = 1)
    (h : DataW.trod enc Try.prog W base (fun _ => true) held fuel t [c0, c1] = some x) :
    ∃ y0 y1 n, DataW.trod enc Try.prog W base (fun _ => true) held n e [c0] = some y0 ∧ DataW.trod enc Try.prog W base (fun _ => true) held n e [c1] = some y1 := by
  obtain ⟨xs, m, _, _, _, hl, hf⟩ := DataW.trod_array ht h
  have h0 := hf 0 (by omega)
  have h1 := hf 1 (by omega)
  rw [hce] at h0 h1
  match xs, hl with
  | [y0, y1], _ => exact ⟨y0, y1, m, by simpa using h0, by simpa using h1⟩
theorem open_arr2 {v : Value} {d : DataW H} {p : List MemPlace} (hv : Value.okWide Try.prog W .any b0 41 v) (h : DataW.Trod enc Try.prog W base (fun _ => true) held 41 v d p) :
    ∃ A1 c1 l1 A2 c2 l2, v = .agg #[.slice A1 l1.length c1, .slice A2 l2.length c2] ∧ Sl W A1 c1 l1 ∧ Sl W A2 c2 l2 := by
  obtain ⟨cs, rfl, hs⟩ := okWide_array Try.underlying41 hv
  obtain ⟨x, y, rfl⟩ := array2 (hs.trans (by kernel_rfl))
  obtain ⟨fuel, hf⟩ := h
  obtain ⟨y0, y1, n, h0, h1⟩ := trod_array2 Try.underlying41 (by kernel_rfl) hf
  obtain ⟨A1, m1, c1, e1⟩ := slice_form Try.underlying22 h0
  obtain ⟨A2, m2, c2, e2⟩ := slice_form Try.underlying22 h1
  simp only [List.cons.injEq, and_true] at e1 e2
  subst e1 e2
  obtain ⟨l1, rfl, s1, _⟩ := sl_of_trod h0
  obtain ⟨l2, rfl, s2, _⟩ := sl_of_trod h1
  exact ⟨A1, c1, l1, A2, c2, l2, rfl, s1, s2⟩
end
end Go.Proofs.Ytcblhohfnmmaeaa.Tup
