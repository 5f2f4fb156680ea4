/- Own texts, joined and cut to what the claim stands on: RlOpen2. -/
import Derived.Test.YtcmllllbmgcnlaaGreatK27
import Derived.Test.YtcmllllbmgcnlaaGreatK31
section
namespace Go.Proofs.YtcmllllbmgcnlaaGreat.Rl
open Go.ChangeShapes Go.WideShapes Go.ChangeAt Go.RowKit Go.Joins Go.Proofs.YtcmllllbmgcnlaaGreat.G Go.Proofs.YtcmllllbmgcnlaaGreat.Tup Go.Proofs.YtcmllllbmgcnlaaGreatW Go.Proofs.YtcmllllbmgcnlaaGreatW.PrintWords
set_option linter.unusedVariables false
set_option linter.unusedSimpArgs false
section
variable {H : Type} {enc : TypeId × Value → H} {W : World} {base b0 : Nat} {held : Bool}
set_option maxRecDepth 100000 in
theorem open_prs {v : Value} {d : DataW H} {p : List MemPlace} {ts : List TypeId} {ds : List (DataW H)} {j : Nat} (hsz : (DataW.weightsEach Tryz.prog ts ds).all (· ≤ reachBytes) = true) (ht : ts[j]? = some 54) (hd : ds[j]? = some d) (hv : Value.okWide Tryz.prog W .any b0 54 v) (h : DataW.Trod enc Tryz.prog W base (fun _ => true) held 54 v d p) :
    ∃ A c ns, v = .slice A ns.length c ∧ Prs W A ns ∧ ns.length ≤ 140737488355328 := by
  obtain ⟨a, len, cap, rfl⟩ := okWide_slice Tryz.underlying54 hv
  obtain ⟨fuel, hf⟩ := h
  have hz : ∀ x ∈ d.weights Tryz.prog 54, x ≤ reachBytes := fun x hx => of_decide_eq_true ((List.all_eq_true.1 hsz) x (DataW.weights_mem_each ht hd x hx))
  rcases Go.Deep.open_slice Tryz.underlying54 hf with ⟨hcs, _⟩ | ⟨a', l', c', m, n, D, Pl, hcs, _, hl, hm, hmm, hdd, hx⟩
  · simp [Value.cells] at hcs
    obtain ⟨rfl, rfl, rfl⟩ := hcs
    exact ⟨none, 0, [], rfl, fun i hi => absurd hi (Nat.not_lt_zero _), by simp⟩
  · simp [Value.cells] at hcs
    obtain ⟨rfl, rfl, rfl⟩ := hcs
    simp only [if_true] at hmm
    subst hmm
    have hd' : d = .slice ((List.range len).map D) ((List.range (m - len)).map fun j => D (len + j)) := by
      injection hdd
    have hc2 : Tryz.prog.cellsOf 55 = 2 := by kernel_rfl
    have hb2 : Tryz.prog.bytesOf 55 = 16 := by kernel_rfl
    rw [hd', DataW.weights, Tryz.underlying54] at hz
    have each : ∀ i, i < len → ∃ x : Int × Int, W.cell? (a'.add (i * 2)) = some (.int .i64 x.1) ∧ W.cell? ⟨(a'.add (i * 2)).block, (a'.add (i * 2)).off + 1, none⟩ = some (.int .i64 x.2) := by
      intro i hi
      obtain ⟨cs, h1, h2⟩ := hx i (by omega)
      rw [hc2] at h1
      obtain ⟨_, hlen, hcell⟩ := World.cells?_some h1
      match cs, hlen with
      | [v0, v1], _ =>
        obtain ⟨y0, y1, n', _, e0, e1⟩ := trod_array2 Tryz.underlying55 (by kernel_rfl) h2
        obtain ⟨K, hk0, _, _⟩ := DataW.trod_int Tryz.underlying3 e0
        obtain ⟨On, hk1, _, _⟩ := DataW.trod_int Tryz.underlying3 e1
        simp only [List.cons.injEq, and_true] at hk0 hk1
        subst hk0 hk1
        refine ⟨(K, On), ?_, ?_⟩
        · simpa [Addr.add] using hcell 0 (by omega)
        · simpa [Addr.add] using hcell 1 (by omega)
    obtain ⟨f, hf'⟩ := Go.Deep.choose_lt each
    have hL : ((List.range len).map f).length = len := by simp
    refine ⟨some a', m, (List.range len).map f, by rw [hL], fun i hi => ⟨a', rfl, ?_⟩, ?_⟩
    · rw [hL] at hi
      have e : ((List.range len).map f)[i]'(by rw [hL]; exact hi) = f i := by simp
      rw [e]
      exact hf' i hi
    · rw [hL]
      have := hz _ (List.mem_cons_self)
      rw [hb2] at this
      simp at this
      unfold reachBytes at this
      omega
end
theorem relBest_calls {W : World} (A : Option Addr) (c : Nat) (t : List Int) (h : Sl W A c t) (A2 : Option Addr) (c2 : Nat) (ns : List (Int × Int)) (hp : Prs W A2 ns ∧ ns.length ≤ 140737488355328) (W' : World) (e : W' = W) :
    Calls Tryz.prog 6 #[.slice A t.length c, .slice A2 ns.length c2] W' fun e w' => e = .returned (.bool true) ∧ Below W.heap.size W w' := by
  subst e
  exact best_walk W' A c t h A2 c2 ns hp.1 hp.2
end Go.Proofs.YtcmllllbmgcnlaaGreat.Rl
end
