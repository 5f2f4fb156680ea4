/- Own texts, joined and cut to what the claim stands on: RlOpen, RlMade, RlMade2. -/
import Derived.ProofKit
import Derived.Laws.Cover2
import Derived.OpenShut
import Derived.ChangeOld
import Derived.Lib.SmallJoins
import Derived.Laws.IdiomArrays
import Derived.Deep.Slices
import Derived.SizedLaws
import Derived.Deep.RegionHeld3
import Derived.Test.YtcmllllbmgcnlaaGreatM32
import Derived.Test.YtcmllllbmgcnlaaGreatM34
import Derived.Test.YtcmllllbmgcnlaaGreatM33
section
namespace Go.Proofs.YtcmllllbmgcnlaaGreat.Rl
open Go.ChangeShapes Go.WideShapes Go.ChangeAt Go.RowKit Go.Joins Go.Proofs.YtcmllllbmgcnlaaGreat.G Go.Proofs.YtcmllllbmgcnlaaGreat.Tup Go.Proofs.YtcmllllbmgcnlaaGreatW Go.Proofs.YtcmllllbmgcnlaaGreatW.PrintWords
set_option linter.unusedVariables false
set_option linter.unusedSimpArgs false
section
variable {H : Type} {enc : TypeId × Value → H} {W : World} {base b0 : Nat} {held : Bool}
set_option maxRecDepth 100000 in
theorem sl_of_trod {fuel : Nat} {a : Option Addr} {len cap : Nat} {y : DataW H × List MemPlace} (hf : DataW.trod enc Tryz.prog W base (fun _ => true) held fuel 23 [.slice a len cap] = some y) :
    ∃ l : List Int, len = l.length ∧ Sl W a cap l ∧ ∀ x ∈ l, (Lit.int .i64 x).wf = true := by
  have row : (a = none ∧ len = 0 ∧ cap = 0 ∧ ([] : List Int) = []) ∨ ∃ zs : List Int, ∃ x, a = some x ∧ len ≤ cap ∧ cap ≤ maxLen ∧ zs.length = cap ∧ (∀ i, i < zs.length → W.cell? (x.add i) = some (.int .i64 (zs.getD i 0))) ∧ ∀ n ∈ zs, (Lit.int .i64 n).wf = true := by
    rcases open_ints Tryz.underlying23 Tryz.underlying3 (by kernel_rfl) hf with ⟨hcs, _⟩ | ⟨x, l, c, zs, hcs, _, hl, hm, hz, _, hcell, hwz⟩
    · simp at hcs
      obtain ⟨rfl, rfl, rfl⟩ := hcs
      exact .inl ⟨rfl, rfl, rfl, rfl⟩
    · simp at hcs
      obtain ⟨rfl, rfl, rfl⟩ := hcs
      exact .inr ⟨zs, _, rfl, hl, hm, by simpa using hz, hcell, hwz⟩
  have row2 : ∃ zs : List Int, (a = none ∧ len = 0 ∧ cap = 0 ∧ zs = []) ∨ ∃ x, a = some x ∧ len ≤ cap ∧ cap ≤ maxLen ∧ zs.length = cap ∧ (∀ i, i < zs.length → W.cell? (x.add i) = some (.int .i64 (zs.getD i 0))) ∧ ∀ n ∈ zs, (Lit.int .i64 n).wf = true := by
    rcases row with h | ⟨zs, h⟩
    · exact ⟨[], .inl h⟩
    · exact ⟨zs, .inr h⟩
  obtain ⟨zs, h⟩ := row2
  obtain ⟨l, e, hr, hm, hw, hc⟩ := ReadsInt.ofRowC h
  subst e
  exact ⟨l, rfl, ⟨Kd.C_of_reads (d := (0 : Int)) (h1 := fun _ => rfl) hr, hc⟩, hw⟩
structure Rs (W : World) (A : Option Addr) (c : Nat) (ls : List Tp) : Prop where
  C : Kd.C KT W A ls.length ls
  le : ls.length ≤ c
  wf : ∀ t ∈ ls, ∀ x ∈ t, (Lit.int .i64 x).wf = true
set_option maxRecDepth 100000 in
theorem rows_of_trod {fuel : Nat} {a : Option Addr} {len cap : Nat} {y : DataW H × List MemPlace} (hf : DataW.trod enc Tryz.prog W base (fun _ => true) held fuel 44 [.slice a len cap] = some y) :
    ∃ ls : List Tp, len = ls.length ∧ Rs W a cap ls := by
  rcases Go.Deep.open_slice1 Tryz.underlying44 (by kernel_rfl) hf with ⟨hcs, _⟩ | ⟨a', l', c', m, n, V, D, Pl, hcs, _, hl, hm, hmm, _, hx⟩
  · simp at hcs
    obtain ⟨rfl, rfl, rfl⟩ := hcs
    exact ⟨[], rfl, Kd.C_nil KT W, Nat.le_refl _, by simp⟩
  · simp at hcs
    obtain ⟨rfl, rfl, rfl⟩ := hcs
    simp only [if_true] at hmm
    subst hmm
    have each : ∀ r, r < len → ∃ y : List Int, (∃ A c, V r = .slice A y.length c ∧ Sl W A c y) ∧ ∀ x ∈ y, (Lit.int .i64 x).wf = true := by
      intro r hr
      obtain ⟨_, h2⟩ := hx r (by omega)
      obtain ⟨A, l, c, e⟩ := slice_form Tryz.underlying23 h2
      simp only [List.cons.injEq, and_true] at e
      rw [e] at h2 ⊢
      obtain ⟨y, rfl, hs, hw⟩ := sl_of_trod h2
      exact ⟨y, ⟨A, c, rfl, hs⟩, hw⟩
    obtain ⟨f, hf'⟩ := Go.Deep.choose_lt each
    have hL : ((List.range len).map f).length = len := by simp
    refine ⟨(List.range len).map f, hL.symm, ⟨⟨by rw [hL], by rw [hL]; unfold maxLen at hm; omega, fun _ => ⟨a', rfl, fun j p hj => ?_⟩⟩, by rw [hL]; exact hl, fun t ht => ?_⟩⟩
    · have hjl : j < len := by have := (List.getElem?_eq_some_iff.1 hj).1; simpa using this
      rw [List.getElem?_map, List.getElem?_range hjl] at hj
      obtain rfl : f j = p := by simpa using hj
      obtain ⟨⟨A, c, e, hs⟩, _⟩ := hf' j hjl
      refine ⟨[V j], rfl, ⟨A, c, by rw [e], hs.le, hs.C⟩, fun i u hu => ?_⟩
      cases i with
      | zero =>
        simp at hu
        subst hu
        have := (hx j (by omega)).1
        rw [show j * Kd.sz KT + 0 = j from by show j * 1 + 0 = j; omega]
        exact this
      | succ i => simp at hu
    · obtain ⟨j, hj, rfl⟩ := List.mem_map.1 ht
      exact (hf' j (List.mem_range.1 hj)).2
theorem weights_all {P : Program} {e : TypeId} {d : DataW H} : ∀ {l : List (DataW H)}, d ∈ l → ∀ x ∈ d.weights P e, x ∈ DataW.weightsAll P e l := by
  intro l
  induction l with
  | nil => intro h; simp at h
  | cons a l ih =>
    intro h x hx
    rw [DataW.weightsAll]
    rcases List.mem_cons.1 h with rfl | h
    · exact List.mem_append.2 (.inl hx)
    · exact List.mem_append.2 (.inr (ih h x hx))
set_option maxRecDepth 100000 in
theorem sl_sized {fuel : Nat} {a : Option Addr} {len cap : Nat} {d : DataW H} {ps : List MemPlace} (hf : DataW.trod enc Tryz.prog W base (fun _ => true) held fuel 23 [.slice a len cap] = some (d, ps)) (hz : ∀ x ∈ d.weights Tryz.prog 23, x ≤ reachBytes) : len * 8 ≤ 140737488351232 := by
  have hsz : (DataW.weightsEach Tryz.prog [23] [d]).all (· ≤ reachBytes) = true := by
    rw [List.all_eq_true]
    intro x hx
    simp [DataW.weightsEach] at hx
    exact decide_eq_true (hz x hx)
  exact PrintWords.sized_ints hsz (j := 0) (t := 23) rfl rfl Tryz.underlying23 Tryz.underlying3 (by kernel_rfl) (by kernel_rfl) ⟨fuel, hf⟩
set_option maxRecDepth 100000 in
theorem rows_sized {fuel : Nat} {a : Option Addr} {len cap : Nat} {d : DataW H} {ps : List MemPlace} (hf : DataW.trod enc Tryz.prog W base (fun _ => true) held fuel 44 [.slice a len cap] = some (d, ps)) (hz : ∀ x ∈ d.weights Tryz.prog 44, x ≤ reachBytes) {ls : List Tp} (hr : Rs W a cap ls) (hl : len = ls.length) : ∀ t ∈ ls, t.length * 8 ≤ 140737488351232 := by
  intro t ht
  obtain ⟨i, hi, rfl⟩ := List.getElem_of_mem ht
  obtain ⟨ad, A, c, e, hc, sl⟩ := tup_at hr.C i hi
  rcases Go.Deep.open_slice1 Tryz.underlying44 (by kernel_rfl) hf with ⟨hcs, _⟩ | ⟨a', l', c', m, n, V, D, Pl, hcs, _, hl', hm, hmm, hd, hx⟩
  · simp at hcs
    omega
  · simp at hcs
    obtain ⟨rfl, rfl, rfl⟩ := hcs
    simp only [if_true] at hmm
    subst hmm
    injection e with e
    subst e
    obtain ⟨h1, h2⟩ := hx i (by omega)
    rw [hc] at h1
    injection h1 with h1
    rw [← h1] at h2
    have hd' : d = .slice ((List.range len).map D) ((List.range (m - len)).map fun j => D (len + j)) := by
      injection hd
    refine sl_sized h2 fun x hx => hz x ?_
    rw [hd', DataW.weights, Tryz.underlying44]
    refine List.mem_cons.2 (.inr (List.mem_append.2 (.inl (weights_all (List.mem_map.2 ⟨i, List.mem_range.2 (by omega), rfl⟩) x hx))))
set_option maxRecDepth 100000 in
theorem rows_len {ts : List TypeId} {ds : List (DataW H)} {j fuel : Nat} {a : Option Addr} {len cap : Nat} {d : DataW H} {ps : List MemPlace} {ls : List Tp} (hsz : (DataW.weightsEach Tryz.prog ts ds).all (· ≤ reachBytes) = true) (ht : ts[j]? = some 44) (hd : ds[j]? = some d) (hf : DataW.trod enc Tryz.prog W base (fun _ => true) held fuel 44 [.slice a len cap] = some (d, ps)) (hl : len = ls.length) : ls.length * 24 ≤ 140737488351232 := by
  rcases Go.Deep.open_slice1 Tryz.underlying44 (by kernel_rfl) hf with ⟨hcs, _⟩ | ⟨a', l', c', m, n, V, D, Pl, hcs, _, hl', hm, hmm, he, hx⟩
  · simp at hcs
    omega
  · simp at hcs
    obtain ⟨rfl, rfl, rfl⟩ := hcs
    have hd' : d = .slice ((List.range len).map D) ((List.range (m - len)).map fun j => D (len + j)) := by
      injection he
    rw [hd'] at hd
    have z := sized_slice hsz ht hd Tryz.underlying44
    have hb : Tryz.prog.bytesOf 23 = 24 := by kernel_rfl
    rw [hb] at z
    simp only [List.length_map, List.length_range] at z
    have hR : reachBytes = 140737488351232 := by kernel_rfl
    omega
set_option maxRecDepth 100000 in
theorem open_rowsZ {v : Value} {d : DataW H} {p : List MemPlace} {ts : List TypeId} {ds : List (DataW H)} {j : Nat} (hsz : (DataW.weightsEach Tryz.prog ts ds).all (· ≤ reachBytes) = true) (ht : ts[j]? = some 44) (hd : ds[j]? = some d) (hv : Value.okWide Tryz.prog W .any b0 44 v) (h : DataW.Trod enc Tryz.prog W base (fun _ => true) held 44 v d p) :
    ∃ A c ls, v = .slice A ls.length c ∧ Rs W A c ls ∧ (∀ t ∈ ls, t.length * 8 ≤ 140737488351232) ∧ ls.length * 24 ≤ 140737488351232 := by
  obtain ⟨a, len, cap, rfl⟩ := okWide_slice Tryz.underlying44 hv
  obtain ⟨fuel, hf⟩ := h
  obtain ⟨ls, hl, hs⟩ := rows_of_trod hf
  refine ⟨a, cap, ls, by rw [hl], hs, rows_sized hf (fun x hx => ?_) hs hl, rows_len hsz ht hd hf hl⟩
  exact of_decide_eq_true ((List.all_eq_true.1 hsz) x (DataW.weights_mem_each ht hd x hx))
set_option maxRecDepth 100000 in
theorem okWide_array {t e : TypeId} {n : Nat} {r : Reach} {v : Value} (ht : Tryz.prog.underlying t = some (.array n e)) (h : Value.okWide Tryz.prog W r b0 t v) : ∃ cs, v = .agg cs ∧ cs.size = Tryz.prog.cellsOf t := by
  unfold Value.okWide at h
  rw [ht] at h
  obtain ⟨cs, rfl, hs, _⟩ := h
  exact ⟨cs, rfl, hs⟩
set_option maxRecDepth 100000 in
theorem trod_array2 {t e : TypeId} {fuel : Nat} {c0 c1 : Value} {x : DataW H × List MemPlace} (ht : Tryz.prog.underlying t = some (.array 2 e)) (hce : Tryz.prog.cellsOf e = 1)
    (h : DataW.trod enc Tryz.prog W base (fun _ => true) held fuel t [c0, c1] = some x) :
    ∃ y0 y1 n, x.1 = DataW.agg [y0.1, y1.1] ∧ DataW.trod enc Tryz.prog W base (fun _ => true) held n e [c0] = some y0 ∧ DataW.trod enc Tryz.prog W base (fun _ => true) held n e [c1] = some y1 := by
  obtain ⟨xs, m, _, hx, _, hl, hf⟩ := DataW.trod_array ht h
  have h0 := hf 0 (by omega)
  have h1 := hf 1 (by omega)
  rw [hce] at h0 h1
  match xs, hl with
  | [y0, y1], _ => exact ⟨y0, y1, m, by rw [hx]; rfl, by simpa using h0, by simpa using h1⟩
theorem arr_two {cs : Array Value} (h : cs.size = 2) : ∃ x y, cs = #[x, y] := by
  obtain ⟨l⟩ := cs
  match l, h with
  | [x, y], _ => exact ⟨x, y, rfl⟩
end
end Go.Proofs.YtcmllllbmgcnlaaGreat.Rl
end
section
namespace Go.Proofs.YtcmllllbmgcnlaaGreat.Rl
open Go.RowKit Go.Lib Go.Shelf Go.Proofs.YtcmllllbmgcnlaaGreat.G Go.Proofs.YtcmllllbmgcnlaaGreat.Tup Go.Proofs.YtcmllllbmgcnlaaGreatW.PrintWords Go.Proofs.YtcmllllbmgcnlaaGreatW.PrintLast Go.Proofs.YtcmllllbmgcnlaaGreatW.PrintMore
open Go.Proofs.YtcmllllbmgcnlaaGreat.Ch (rwrongS pickS pickS_some)
set_option linter.unusedVariables false
set_option linter.unusedSimpArgs false
theorem new_any (W : World) (width : Int) (A : Option Addr) (c : Nat) (l : List Int) (h : Sl W A c l) :
    Calls Tryz.prog 11 #[.int .i64 width, .slice A l.length c] W fun e w' => ∃ a, e = .returned (.tuple #[.pointer a, .int .i64 (rwrongS width l)]) ∧ Below W.heap.size W w' := by
  by_cases h0 : rwrongS width l = 0
  · refine (rnew_yes W width A c l h h0).mono ?_
    rintro e w' ⟨br, wd, os, m, bss, _, rfl, hb, _⟩
    exact ⟨_, by rw [h0], hb⟩
  · exact (rnew_no W width A c l h h0).mono fun e w' hp => ⟨_, hp⟩
theorem run_append_nil0 {P : Program} {w : World} (base : Nat) (t ty e : TypeId) (i : TypeInfo) (size : Nat) (ht : P.underlying t = some (.slice e)) (hi : P.info? e = some i)
    (v : Value) (n : Nat) (xs : List Value) (hown : w.ownsRow base e size v n xs) (c : Nat) :
    (Builtin.append_ #[t, t] ty #[v, .slice none 0 c]).run P w = .ok v w := by
  rcases hown.2 with ⟨rfl, rfl⟩ | ⟨g, cap, cur, rfl, _, _, hnc, _⟩
  · simp [Builtin.append_, run_underlying ht, sizeOf, typeInfo, hi, Builtin.lenOf, Builtin.firstCells]
  · simp [Builtin.append_, run_underlying ht, sizeOf, typeInfo, hi, Builtin.lenOf, Builtin.firstCells, hnc, storeCells]
theorem region_plain {P : Program} {S : World → Prop} {ops : Array Oper} {id : Nat} {Q : Exit → Act → World → Prop} {a : Act} {w : World} (hm : P.follows .mixedOrders = true) (hS : S w.drew) (h : S w.drew → wpAnyH P .any ops Q S ops.size (Array.replicate ops.size false) a w.drew) : (Code.region id ops true).wp P Q a w :=
  wp_region_any hm (wpAny_of_held _ _ _ _ (h hS))
theorem step_append_eq {P : Program} {ops : Array Oper} {o : Oper} {a : Act} {w : World} {K : Act → World → Prop} {Q : Exit → Act → World → Prop} {E : Prop} (hgd : o.guard = none) (s x : Operand) (t : TypeId)
    (ho : o.op = .call { callee := .builtin .append, args := #[s, x], argTypes := #[t, t] }) {v u v' : Value} {w' : World} (hs : a.eval s = v) (hx : a.eval x = u) (hr : (Builtin.append_ #[t, t] o.type #[v, u]).run P w = .ok v' w') (h : K (a.put o.dst v') w') :
    if Region.wanted o (yielded ops a.tmps) = true then Oper.wp P o a w K Q else E := by
  have hw : Region.wanted o (yielded ops a.tmps) = true := by simp [Region.wanted, hgd]
  rw [if_pos hw]
  unfold Oper.wp execOp
  simp only [ho, resolve, invoke, builtin, Sem.run_bind, Sem.run_pure, Result.andThen_ok, List.map_toArray, List.map_cons, List.map_nil, hs, hx, hr]
  exact h
theorem rwrong_len {width : Int} {l : List Int} (h : rwrongS width l = 0) : l.length ≤ 256 := by
  unfold Go.Proofs.YtcmllllbmgcnlaaGreat.Ch.rwrongS Go.Proofs.YtcmllllbmgcnlaaGreat.Ch.wrongS at h
  split at h
  · cases h
  · split at h
    · cases h
    · omega
theorem made_ptr {W : World} {width : Int} {e : Ending} {w' : World} (h : MadeR W width e w') : ∃ b, e = .returned (.tuple #[.pointer (some ⟨b, 0, none⟩), .int .i64 0]) ∧ Below W.heap.size W w' ∧ ∃ wd : Nat, width = wd := by
  obtain ⟨br, wd, os, m, bss, hw, he, hb, _⟩ := h
  exact ⟨br, he, hb, wd, hw⟩
theorem dup_ptr {W w1 w2 : World} {width : Int} {b1 b2 : Nat} (h1 : MadeR W width (.returned (.tuple #[.pointer (some ⟨b1, 0, none⟩), .int .i64 0])) w1) (h2 : MadeR w1 width (.returned (.tuple #[.pointer (some ⟨b2, 0, none⟩), .int .i64 0])) w2) : ∃ n m1 m2 bs1 bs2 os1 os2, Dup W b1 b2 n m1 m2 bs1 bs2 os1 os2 [] [] w2 := by
  obtain ⟨b, _, _, n, rfl⟩ := made_ptr h1
  obtain ⟨c1, c2, m1, m2, bs1, bs2, os1, os2, e1, e2, hD⟩ := dup_made h1 h2
  simp at e1 e2
  subst e1 e2
  exact ⟨n, m1, m2, bs1, bs2, os1, os2, hD⟩
theorem app_eq {wa : World} {base : Nat} {v : Value} {n : Nat} {xs : List Value} (hown : wa.ownsRow base 3 1 v n xs) {A : Option Addr} {c : Nat} {t : Tp} (st : Sl wa A c t) (hn : (n + t.length) * 8 ≤ 140737488355328) (hb : base ≤ wa.heap.size) :
    ∃ v' w', (Builtin.append_ #[23, 23] 23 #[v, .slice A t.length c]).run Tryz.prog wa = .ok v' w' ∧ w'.ownsRow base 3 1 v' (n + t.length) (xs ++ t.map (Value.int .i64)) ∧ wa.grownBy w' v.ownBlock := by
  obtain ⟨i0, hi, hz0, hz1, hz2⟩ := info_parts (show (Tryz.prog.info? 3).map (fun i => (i.zero, i.size, i.bytes)) = some (some (.int .i64 0), 1, 8) by kernel_rfl)
  by_cases hp : 0 < t.length
  · obtain ⟨ad, rfl, hc⟩ := sl_cells st hp
    obtain ⟨v', w', h1, h2, h3, _⟩ := run_append_own_at (P := Tryz.prog) (w := wa) base 23 23 3 i0 (.int .i64 0) 1 8 Tryz.underlying23 hi hz0 hz1 hz2 rfl (by decide) v n xs hown ad t.length c (t.map (Value.int .i64)) (by simp) hc (by intro u hu; obtain ⟨x, _, rfl⟩ := List.mem_map.1 hu; rfl) (by unfold maxLen; omega) hn hb
    exact ⟨v', w', h1, h2, h3⟩
  · obtain rfl : t = [] := List.length_eq_zero_iff.1 (by omega)
    cases A with
    | some ad =>
      obtain ⟨v', w', h1, h2, h3, _⟩ := run_append_own_at (P := Tryz.prog) (w := wa) base 23 23 3 i0 (.int .i64 0) 1 8 Tryz.underlying23 hi hz0 hz1 hz2 rfl (by decide) v n xs hown ad 0 c [] (by simp) (by simp) (by simp) (by unfold maxLen; simp at hn; omega) (by simpa using hn) hb
      exact ⟨v', w', h1, by simpa using h2, h3⟩
    | none => exact ⟨v, wa, run_append_nil0 (P := Tryz.prog) (w := wa) base 23 23 3 i0 1 Tryz.underlying23 hi v n xs hown c, by simpa using hown, ⟨rfl, rfl, rfl, Nat.le_refl _, fun _ _ _ => rfl⟩⟩
set_option maxHeartbeats 16000000 in
set_option maxRecDepth 100000 in
theorem made_main (W : World) (width : Int) (A0 : Option Addr) (c0 : Nat) (s0 : List Int) (h0 : Sl W A0 c0 s0) (A1 : Option Addr) (c1 : Nat) (s1 : List Int) (h1 : Sl W A1 c1 s1) (A2 : Option Addr) (c2 : Nat) (ls : List Tp) (hls : Kd.C KT W A2 ls.length ls) (hlz : ∀ t ∈ ls, t.length * 8 ≤ 140737488351232) (hlc : ls.length ≤ c2)
    (hok : rwrongS width s0 = 0 ∧ rwrongS width s1 = 0 ∧ ls.length ≤ 100) :
    Calls Tryz.prog 5 #[.int .i64 width, .agg #[.slice A0 s0.length c0, .slice A1 s1.length c1], .slice A2 ls.length c2] W fun e w' => e = .returned (.bool true) ∧ Below W.heap.size W w' := by
  obtain ⟨e0, e1, hl⟩ := hok
  have hbB := below_alloc (Below.refl W.heap.size W) (.cells #[.slice A0 s0.length c0, .slice A1 s1.length c1] 43)
  have q0 : (W.alloc (.cells #[.slice A0 s0.length c0, .slice A1 s1.length c1] 43)).cell? ⟨W.heap.size, 0, none⟩ = some (.slice A0 s0.length c0) := (Tup.cell_of_heap (heap_alloc_new _ _) 0).trans rfl
  have q1 : (W.alloc (.cells #[.slice A0 s0.length c0, .slice A1 s1.length c1] 43)).cell? ⟨W.heap.size, 1, none⟩ = some (.slice A1 s1.length c1) := (Tup.cell_of_heap (heap_alloc_new _ _) 1).trans rfl
  have HN0 := Aside0.mk (rnew_yes (W.alloc (.cells #[.slice A0 s0.length c0, .slice A1 s1.length c1] 43)) width A0 c0 s0 (h0.below hbB) e0)
  have HS := Aside0.mk (And.intro h0 (And.intro h1 (And.intro hls (And.intro hlz hlc))))
  have HZ := Aside0.mk (And.intro (rwrong_len e0) (rwrong_len e1))
  have HE := Aside0.mk e1
  have HB := Aside0.mk hbB
  obtain ⟨n, hn⟩ : ∃ n, n = ls.length := ⟨_, rfl⟩
  have HNE := Aside0.mk hn
  rw [← hn] at hl ⊢
  have g1 : decide ((n : Int) > 100) = false := decide_eq_false (by omega)
  have g2 : ¬ (n : Int) > 100 := by omega
  clear h0 h1 hls hlz hlc e0 e1 hn hbB
  go_enter Tryz.func5, Tryz.ntmps5
  go_wp2_with (first
    | (go_at_call 11; (with_reducible refine HN0.out.mono ?_); clear HN0; rintro e w1 hm1; obtain ⟨br1, he1, hb1, wd1, hw1⟩ := made_ptr hm1; subst he1; have HM1 := Aside0.mk hm1; have q2 := pw_cell_below hb1 q1; have HN1 := Aside0.mk (rnew_yes w1 width A1 c1 s1 (HS.out.2.1.below (below_then HB.out HB.out.size hb1)) HE.out); clear hm1 hb1 hw1)
    | (go_at_call 11; (with_reducible refine HN1.out.mono ?_); clear HN1; rintro e w2 hm2; obtain ⟨br2, he2, hb2, wd2, hw2⟩ := made_ptr hm2; subst he2; have HM2 := Aside0.mk hm2; clear hm2 hb2 hw2)
    | (go_at_call 12; refine (alive_calls _).mono ?_; rintro e w5 ⟨rfl, hb5⟩; have HB5 := Aside0.mk hb5; clear hb5))
  obtain ⟨wn, m1, m2, bs1, bs2, os1, os2, hD⟩ := dup_ptr HM1.out HM2.out
  have HD0 := Aside0.mk (hD.below HB5.out)
  have HQ := Aside0.mk (And.intro q0 q1)
  clear hD q0 q1 q2 HM1 HM2 HB5
  generalize hWB : W.alloc (.cells #[.slice A0 s0.length c0, .slice A1 s1.length c1] 43) = WB at HD0 HQ HB
  clear hWB
  go_loopg [57] n (fun gk v57 wr => ∃ (i : Nat) (R : List Row), v57 = .int .i64 (i : Int) ∧ Aside0 (i + gk = n) ∧ Aside0 (Dup WB br1 br2 wn m1 m2 bs1 bs2 os1 os2 R R wr))
  case atStart => exact ⟨0, [], rfl, ⟨by omega⟩, HD0⟩
  case round =>
    obtain ⟨i, R, rfl, HI, HD⟩ := hrel
    by_cases hi : i < n
    · have hii : (i : Int) < (n : Int) := by omega
      have hid : decide (i < n) = true := decide_eq_true hi
      obtain ⟨ad, At, ct, rfl, hcell, hsl⟩ := tup_at HS.out.2.2.1 i (by rw [← HNE.out]; exact hi)
      obtain ⟨t, htt⟩ : ∃ t, t = ls[i]'(by rw [← HNE.out]; exact hi) := ⟨_, rfl⟩
      rw [← htt] at hcell hsl
      have hcr := pw_cell_below (below_then HB.out HB.out.size HD.out.b) hcell
      obtain ⟨x, hx⟩ : ∃ x, x = (noteF i 1).1.1 := ⟨_, rfl⟩
      obtain ⟨y, hy⟩ : ∃ y, y = (noteF i 1).1.2 := ⟨_, rfl⟩
      have HNt := Aside0.mk (fun w => lnote_calls w i 1)
      rw [← hx, ← hy] at HNt
      have HSL := Aside0.mk (hsl.below HB.out)
      have HP1 := Aside0.mk (HD.out.put x y HSL.out)
      have HP2 := Aside0.mk (fun (w6 : World) (R1 : List Row) (hD6 : Dup WB br1 br2 wn m1 m2 bs1 bs2 os1 os2 R1 R w6) => hD6.symm.put x y HSL.out)
      obtain ⟨C, hC⟩ : ∃ C, C = putC wn R t x y := ⟨_, rfl⟩
      rw [← hC] at HP1 HP2
      clear hx hy hcell hsl htt hC
      obtain ⟨R1, qa, qz⟩ := C
      have zz : (qz != qz) = false := by simp
      cases qa
      all_goals
        go_wp2_with (first
          | (go_at_call 20; refine (HNt.out _).mono ?_; rintro e w1 ⟨rfl, hw1⟩; subst hw1)
          | (go_at_call 13; (with_reducible refine HP1.out.mono ?_); clear HP1; rintro e w6 ⟨rfl, hd6⟩; have HP3 := Aside0.mk (HP2.out _ _ hd6); clear hd6)
          | (go_at_call 13; (with_reducible refine HP3.out.mono ?_); clear HP3; rintro e w7 ⟨rfl, hd7⟩; have HD7 := Aside0.mk hd7.symm; clear hd7))
        obtain ⟨k2, hk2⟩ : ∃ k2, k2 = gk - 1 := ⟨_, rfl⟩
        go_roundg k2
        case measure => have := HI.out; omega
        case rel => exact ⟨i + 1, R1, by go_num, ⟨by have := HI.out; omega⟩, HD7⟩
    · have hii : ¬ (i : Int) < (n : Int) := by omega
      have hid : decide (i < n) = false := decide_eq_false hi
      clear HD0 HI
      go_wp2_with fail
      go_loopg [89] n (fun gk v89 wq => ∃ (j : Nat), v89 = .int .i64 (j : Int) ∧ Aside0 (j + gk = n) ∧ Aside0 (Since wr wq))
      case atStart => exact ⟨0, rfl, ⟨by omega⟩, ⟨Since.refl _⟩⟩
      case round =>
        obtain ⟨j, rfl, HJ, HSQ⟩ := hrel
        by_cases hj : j < n
        · have hji : (j : Int) < (n : Int) := by omega
          have hjd : decide (j < n) = true := decide_eq_true hj
          obtain ⟨ad, At, ct, rfl, hcell, hsl⟩ := tup_at HS.out.2.2.1 j (by rw [← HNE.out]; exact hj)
          obtain ⟨t, htt⟩ : ∃ t, t = ls[j]'(by rw [← HNE.out]; exact hj) := ⟨_, rfl⟩
          have HTZ := Aside0.mk (HS.out.2.2.2.1 t (by rw [htt]; exact List.getElem_mem _))
          rw [← htt] at hcell hsl
          have hbq : Below W.heap.size W wr := below_then HB.out HB.out.size (HD.out.below HSQ.out.b).b
          have hcr := pw_cell_below hbq hcell
          clear hcell htt
          have HCQ := Aside0.mk (fun (w' : World) (hs : Since wr w') => And.intro (pw_cell_below (Since.b (((Since.mk (HD.out.b)).trans HSQ.out).trans hs)) HQ.out.1) (pw_cell_below (Since.b (((Since.mk (HD.out.b)).trans HSQ.out).trans hs)) HQ.out.2))
          go_wp2_with fail
          obtain ⟨qa0, qa1⟩ := HCQ.out wr (Since.refl wr)
          obtain ⟨wa, hwa⟩ : ∃ wa, wa = (wr.alloc (.cells #[.int .i64 0] 3)).drew := ⟨_, rfl⟩
          have hsa : Since wr wa := by rw [hwa]; exact ((Since.refl wr).alloc _).drew
          have hza : wa.heap.size = wr.heap.size + 1 := by rw [hwa]; show (wr.alloc (.cells #[.int .i64 0] 3)).heap.size = _; simp
          have own0 : wa.ownsRow wr.heap.size 3 1 (.slice (some ⟨wr.heap.size, 0, none⟩) 1 1) 1 [.int .i64 0] := by
            rw [hwa]
            exact ⟨rfl, .inr ⟨wr.heap.size, 1, #[.int .i64 0], rfl, Nat.le_refl _, heap_alloc_new wr _, Nat.le_refl _, by decide, rfl, rfl⟩⟩
          have hlow : Below W.heap.size W wr := hbq
          obtain ⟨v1, x1, hr1, ho1, hg1⟩ := app_eq own0 (HS.out.1.below (below_then hlow hlow.size hsa.b)) (by have := HZ.out.1; omega) (by omega)
          rw [Nat.add_comm 1 s0.length] at ho1
          obtain ⟨gg1, cp1, rfl⟩ := ownsRow_succ ho1
          have hs1 : Since wr x1 := ⟨hsa.b.grown hg1 hsa.b.size fun k e => by have e' : wr.heap.size = k := by simpa [Value.ownBlock] using e
                                                                              omega⟩
          have hge1 := own_ge ho1
          obtain ⟨v2, x2, hr2, ho2, hg2⟩ := app_eq ho1 (HS.out.2.1.below (below_then hlow hlow.size hs1.b)) (by have := HZ.out; omega) hs1.b.size
          rw [Nat.add_right_comm] at ho2
          obtain ⟨gg2, cp2, rfl⟩ := ownsRow_succ ho2
          have hs2 : Since wr x2 := ⟨hs1.b.grown hg2 hs1.b.size fun k e => hge1 k e.symm⟩
          have HO2 := Aside0.mk (And.intro ho2 (And.intro hs1 hs2))
          obtain ⟨qb0, qb1⟩ := HCQ.out (wr.alloc (.cells #[.int .i64 0] 3)) ((Since.refl wr).alloc _)
          obtain ⟨qc0, qc1⟩ := HCQ.out x1 hs1
          obtain ⟨qd0, qd1⟩ := HCQ.out x2 hs2
          subst hwa
          clear own0 ho1 ho2 hg1 hg2 hge1 hsa hs1 hs2 hlow
          refine region_plain (S := fun w' => w'.cell? ⟨W.heap.size, 0, none⟩ = some (.slice A0 s0.length c0) ∧ w'.cell? ⟨W.heap.size, 1, none⟩ = some (.slice A1 s1.length c1)) (by kernel_rfl) (HCQ.out _ (Since.refl wr).drew) (fun hHeld => ?_)
          refine wpAnyH_take (i := 1) (v := ?_) rfl (by kernel_rfl) (by kernel_rfl) (by kernel_rfl) (fun _ _ _ h => h) (Or.inl ⟨by rfl, ?_⟩) hHeld ?_
          rotate_left
          · intro w hSw; obtain ⟨hSa, hSb⟩ := hSw; go_simp; try with_reducible rfl
          try simp only [Act.put, List.setIfInBounds_toArray, List.set_cons_zero, List.set_cons_succ]
          refine wpAnyH_take (i := 2) (v := ?_) rfl (by kernel_rfl) (by kernel_rfl) (by kernel_rfl) (fun _ _ _ h => h) (Or.inl ⟨by rfl, ?_⟩) hHeld ?_
          rotate_left
          · intro w hSw; obtain ⟨hSa, hSb⟩ := hSw; go_simp; try with_reducible rfl
          try simp only [Act.put, List.setIfInBounds_toArray, List.set_cons_zero, List.set_cons_succ]
          refine wpAnyH_take (i := 4) (v := ?_) rfl (by kernel_rfl) (by kernel_rfl) (by kernel_rfl) (fun _ _ _ h => h) (Or.inl ⟨by rfl, ?_⟩) hHeld ?_
          rotate_left
          · intro w hSw; obtain ⟨hSa, hSb⟩ := hSw; go_simp; try with_reducible rfl
          try simp only [Act.put, List.setIfInBounds_toArray, List.set_cons_zero, List.set_cons_succ]
          refine wpAnyH_take (i := 5) (v := ?_) rfl (by kernel_rfl) (by kernel_rfl) (by kernel_rfl) (fun _ _ _ h => h) (Or.inl ⟨by rfl, ?_⟩) hHeld ?_
          rotate_left
          · intro w hSw; obtain ⟨hSa, hSb⟩ := hSw; go_simp; try with_reducible rfl
          try simp only [Act.put, List.setIfInBounds_toArray, List.set_cons_zero, List.set_cons_succ]
          refine wpAnyH_take (i := 8) (v := ?_) rfl (by kernel_rfl) (by kernel_rfl) (by kernel_rfl) (fun _ _ _ h => h) (Or.inl ⟨by rfl, ?_⟩) hHeld ?_
          rotate_left
          · intro w hSw; obtain ⟨hSa, hSb⟩ := hSw; go_simp; try with_reducible rfl
          try simp only [Act.put, List.setIfInBounds_toArray, List.set_cons_zero, List.set_cons_succ]
          refine wpAnyH_ready (rs := [0]) (by kernel_rfl) (by simp) ?_
          refine AllReadyH.cons rfl (fun K hK => ?_) AllReadyH.nil
          go_simp
          refine hK.out _ _ (HCQ.out _ ((Since.refl wr).drew.alloc _)) (fun hHeld => ?_)
          clear hK K
          try simp only [Act.put, List.setIfInBounds_toArray, List.set_cons_zero, List.set_cons_succ]
          refine wpAnyH_ready (rs := [3]) (by kernel_rfl) (by simp) ?_
          refine AllReadyH.cons rfl (fun K hK => ?_) AllReadyH.nil
          refine step_append_eq rfl (.tmp 93) (.tmp 95) 23 rfl rfl rfl hr1 ?_
          refine hK.out _ _ (HCQ.out _ HO2.out.2.1) (fun hHeld => ?_)
          clear hK K
          try simp only [Act.put, List.setIfInBounds_toArray, List.set_cons_zero, List.set_cons_succ]
          refine wpAnyH_ready (rs := [6]) (by kernel_rfl) (by simp) ?_
          refine AllReadyH.cons rfl (fun K hK => ?_) AllReadyH.nil
          refine step_append_eq rfl (.tmp 96) (.tmp 98) 23 rfl rfl rfl hr2 ?_
          refine hK.out _ _ (HCQ.out _ HO2.out.2.2) (fun hHeld => ?_)
          clear hK K
          try simp only [Act.put, List.setIfInBounds_toArray, List.set_cons_zero, List.set_cons_succ]
          refine wpAnyH_ready (rs := [7]) (by kernel_rfl) (by simp) ?_
          refine AllReadyH.cons rfl (fun K hK => ?_) AllReadyH.nil
          go_simp
          refine hK.out _ _ (HCQ.out _ HO2.out.2.2) (fun hHeld => ?_)
          clear hK K
          try simp only [Act.put, List.setIfInBounds_toArray, List.set_cons_zero, List.set_cons_succ]
          refine wpAnyH_done (by kernel_rfl) ?_ _
          have HDX := Aside0.mk (HD.out.below (HSQ.out.trans HO2.out.2.2).b)
          obtain ⟨L, hL⟩ : ∃ L : List Int, L = 0 :: (s0 ++ s1) := ⟨_, rfl⟩
          have HOL := Aside0.mk (show x2.ownsRow _ 3 1 (.slice (some ⟨gg2, 0, none⟩) (s0.length + s1.length + 1) cp2) (s0.length + s1.length + 1) (L.map (Value.int .i64)) from by
            have := HO2.out.1
            rw [hL]
            simpa using this)
          have hLl : L.length = s0.length + s1.length + 1 := by rw [hL]; simp
          obtain ⟨nn, hnn⟩ : ∃ nn, nn = s0.length + s1.length + 1 := ⟨_, rfl⟩
          have hnb : nn ≤ 513 := by have := HZ.out; omega
          rw [← hnn] at HOL hLl
          rw [← hnn]
          rw [show ((s0.length : Int) + (s1.length : Int) + 1) = (nn : Int) from by omega]
          have HSX := Aside0.mk (HSQ.out.trans HO2.out.2.2)
          have HLL := Aside0.mk hLl
          clear hr1 hr2 HO2 hnn hL hLl qa0 qa1 qb0 qb1 qc0 qc1 qd0 qd1
          go_wp2_with fail
          go_loopg [101] nn (fun gk v101 wz => ∃ (k : Nat), v101 = .int .i64 (k : Int) ∧ Aside0 (k + gk = nn) ∧ Aside0 (Since x2 wz))
          case atStart => exact ⟨0, rfl, ⟨by omega⟩, ⟨by repeat (first | exact Since.refl _ | refine Since.drew ?_)⟩⟩
          case round =>
            obtain ⟨k, rfl, HK, HS3⟩ := hrel
            by_cases hk : k < nn
            · have hki : (k : Int) < (nn : Int) := by omega
              have hkd : decide (k < nn) = true := decide_eq_true hk
              have hkL : k < L.length := by rw [HLL.out]; exact hk
              obtain ⟨z, hz⟩ : ∃ z, z = L[k] := ⟨_, rfl⟩
              have hcz : x2.cell? ((⟨gg2, 0, none⟩ : Addr).add k) = some (.int .i64 z) := by
                have := HOL.out.cellAt k (by omega)
                rw [Addr.add_lit, Nat.zero_add]
                rw [hz]
                exact this.trans (by simp [hkL])
              have hcz2 := pw_cell_below HS3.out.b hcz
              have hcz3 := hcz2
              rw [Addr.add_lit, Nat.zero_add] at hcz3
              have HD3 := Aside0.mk (HDX.out.below HS3.out.b)
              have HST := Aside0.mk (fun (w' : World) (D' : Dup WB br1 br2 wn m1 m2 bs1 bs2 os1 os2 R R w') => hsl.below (below_then HB.out HB.out.size D'.b))
              obtain ⟨ok1, hr1, _⟩ := HD3.out.one.ex
              have HYB := Aside0.mk (show (findL wn R z t).length ≤ 1000000 ∧ ∀ x ∈ findL wn R z t, x.1.length ≤ 1000000 from ⟨by have := findL_len wn R z t; have := hr1.hR.le; omega, fun x hx => by have := hr1.hR.wd x (findL_sub hx); have := hr1.hos.w8; omega⟩)
              have HF1 := Aside0.mk (find_rows hr1 z At ct t (HST.out _ HD3.out) HTZ.out)
              have HF2 := Aside0.mk (fun (w' : World) (D' : Dup WB br1 br2 wn m1 m2 bs1 bs2 os1 os2 R R w') => show Calls Tryz.prog 22 #[.pointer (some ⟨br2, 0, none⟩), .int .i64 z, .slice At t.length ct] w' (fun e w2 => ∃ okk, FindRows okk w' (findL wn R z t) e w2) from by
                obtain ⟨ok2, hr2, _⟩ := D'.two.ex
                exact (find_rows hr2 z At ct t (HST.out _ D') HTZ.out).mono fun e w2 h => ⟨_, h⟩)
              obtain ⟨ys, hys⟩ : ∃ ys, ys = findL wn R z t := ⟨_, rfl⟩
              rw [← hys] at HYB HF1 HF2
              clear hr1 hys hz hcz hkL
              go_wp2_with (first
                | (go_at_call 22; go_loud ((with_reducible refine HF1.out.mono ?_); clear HF1; rintro e w6 ⟨q1, q2, q3, rfl, hb6, HR1⟩; have HD6 := Aside0.mk (HD3.out.below hb6); have S6 := Aside0.mk (HS3.out.step hb6); clear hb6))
                | (go_at_call 21; (with_reducible refine HR1.out.mono ?_); clear HR1; rintro e w7 ⟨A7, c7, rfl, hc7, hF7, hb7⟩; have HD7 := Aside0.mk (HD6.out.below hb7); have S7 := Aside0.mk (S6.out.step hb7); have HFF := Aside0.mk hF7; have HF3 := Aside0.mk (HF2.out w7 HD7.out); clear hb7 hc7 hF7)
                | (go_at_call 22; (with_reducible refine HF3.out.mono ?_); clear HF3; rintro e w8 ⟨okk, q4, q5, q6, rfl, hb8, HR2⟩; have HD8 := Aside0.mk (HD7.out.below hb8); have S8 := Aside0.mk (S7.out.step hb8); have HFG := Aside0.mk (Kd.F_below HFF.out hb8); clear hb8)
                | (go_at_call 21; (with_reducible refine HR2.out.mono ?_); clear HR2; rintro e w9 ⟨A9, c9, rfl, hc9, hF9, hb9⟩; have HD9 := Aside0.mk (HD8.out.below hb9); have S9 := Aside0.mk (S8.out.step hb9); have HSm := Aside0.mk (same7_calls w9 A7 c7 ys A9 c9 ys (Kd.F_now (Kd.F_below HFG.out hb9)) (Kd.F_now hF9) HYB.out.1 HYB.out.2); rw [decide_eq_true (rfl : ys = ys)] at HSm; have HBB := Aside0.mk hb9; clear hb9 hc9 hF9)
                | (go_at_call 23; (with_reducible refine HSm.out.mono ?_); clear HSm; rintro e w10 ⟨rfl, hb10⟩; have S10 := Aside0.mk (S9.out.step hb10); clear hb10))
              obtain ⟨k2, hk2⟩ : ∃ k2, k2 = nn - k - 1 := ⟨_, rfl⟩
              go_roundg k2
              case measure => have := HK.out; omega
              case rel => exact ⟨k + 1, by go_num, ⟨by have := HK.out; omega⟩, S10⟩
            · have hki : ¬ (k : Int) < (nn : Int) := by omega
              have hkd : decide (k < nn) = false := decide_eq_false hk
              go_wp2_with fail
              obtain ⟨k2, hk2⟩ : ∃ k2, k2 = n - j - 1 := ⟨_, rfl⟩
              go_roundg k2
              case measure => have := HJ.out; omega
              case rel => exact ⟨j + 1, by go_num, ⟨by have := HJ.out; omega⟩, ⟨HSX.out.trans HS3.out⟩⟩
        · have hji : ¬ (j : Int) < (n : Int) := by omega
          have hjd : decide (j < n) = false := decide_eq_false hj
          go_wp2_with fail
          go_ret
          exact ⟨rfl, below_then HB.out HB.out.size (HD.out.below HSQ.out.b).b⟩
end Go.Proofs.YtcmllllbmgcnlaaGreat.Rl
end
section
namespace Go.Proofs.YtcmllllbmgcnlaaGreat.Rl
open Go.ChangeShapes Go.WideShapes Go.ChangeAt Go.Joins Go.RowKit Go.Lib Go.Shelf Go.Proofs.YtcmllllbmgcnlaaGreat.G Go.Proofs.YtcmllllbmgcnlaaGreat.Tup Go.Proofs.YtcmllllbmgcnlaaGreatW Go.Proofs.YtcmllllbmgcnlaaGreatW.PrintWords Go.Proofs.YtcmllllbmgcnlaaGreatW.PrintLast Go.Proofs.YtcmllllbmgcnlaaGreatW.PrintMore
open Go.Proofs.YtcmllllbmgcnlaaGreat.Ch (rwrongS)
set_option linter.unusedVariables false
set_option linter.unusedSimpArgs false
set_option maxHeartbeats 8000000 in
set_option maxRecDepth 100000 in
theorem made_else (W : World) (width : Int) (A0 : Option Addr) (c0 : Nat) (s0 : List Int) (h0 : Sl W A0 c0 s0) (A1 : Option Addr) (c1 : Nat) (s1 : List Int) (h1 : Sl W A1 c1 s1) (A2 : Option Addr) (n c2 : Nat)
    (hno : ¬ (rwrongS width s0 = 0 ∧ rwrongS width s1 = 0 ∧ n ≤ 100)) :
    Calls Tryz.prog 5 #[.int .i64 width, .agg #[.slice A0 s0.length c0, .slice A1 s1.length c1], .slice A2 n c2] W fun e w' => e = .returned (.bool true) ∧ Below W.heap.size W w' := by
  have hbB := below_alloc (Below.refl W.heap.size W) (.cells #[.slice A0 s0.length c0, .slice A1 s1.length c1] 43)
  have q0 : (W.alloc (.cells #[.slice A0 s0.length c0, .slice A1 s1.length c1] 43)).cell? ⟨W.heap.size, 0, none⟩ = some (.slice A0 s0.length c0) := (Tup.cell_of_heap (heap_alloc_new _ _) 0).trans rfl
  have q1 : (W.alloc (.cells #[.slice A0 s0.length c0, .slice A1 s1.length c1] 43)).cell? ⟨W.heap.size, 1, none⟩ = some (.slice A1 s1.length c1) := (Tup.cell_of_heap (heap_alloc_new _ _) 1).trans rfl
  have HN0 := Aside0.mk (new_any (W.alloc (.cells #[.slice A0 s0.length c0, .slice A1 s1.length c1] 43)) width A0 c0 s0 (h0.below hbB))
  have HN1 := Aside0.mk (fun (w1 : World) (hb : Below W.heap.size W w1) => new_any w1 width A1 c1 s1 (h1.below hb))
  have HB := Aside0.mk hbB
  obtain ⟨z0, hz0⟩ : ∃ z, z = rwrongS width s0 := ⟨_, rfl⟩
  obtain ⟨z1, hz1⟩ : ∃ z, z = rwrongS width s1 := ⟨_, rfl⟩
  rw [← hz0] at HN0 hno
  rw [← hz1] at HN1 hno
  clear hz0 hz1 h0 h1 hbB
  by_cases e0 : z0 = 0
  · subst e0
    by_cases e1 : z1 = 0
    · subst e1
      have g1 : decide ((n : Int) > 100) = true := decide_eq_true (by omega)
      have g2 : (n : Int) > 100 := by omega
      clear hno
      go_enter Tryz.func5, Tryz.ntmps5
      go_wp2_with (first
        | (go_at_call 11; (with_reducible refine HN0.out.mono ?_); clear HN0; rintro e w1 ⟨a0, rfl, hb1⟩; have q2 := pw_cell_below hb1 q1; have HB1 := Aside0.mk (below_then HB.out HB.out.size hb1); have HN2 := Aside0.mk (HN1.out w1 HB1.out); clear hb1 HN1)
        | (go_at_call 11; (with_reducible refine HN2.out.mono ?_); clear HN2; rintro e w2 ⟨a1, rfl, hb2⟩; have HB2 := Aside0.mk (below_then HB1.out HB1.out.size hb2); clear hb2)
        | (go_at_call 12; refine (alive_calls _).mono ?_; rintro e w5 ⟨rfl, hb5⟩; have HB5 := Aside0.mk (below_then HB2.out HB2.out.size hb5); clear hb5))
      go_ret
      exact ⟨rfl, HB5.out⟩
    · have y1 : (z1 != 0) = true := by simpa using e1
      clear hno e1
      go_enter Tryz.func5, Tryz.ntmps5
      go_wp2_with (first
        | (go_at_call 11; (with_reducible refine HN0.out.mono ?_); clear HN0; rintro e w1 ⟨a0, rfl, hb1⟩; have q2 := pw_cell_below hb1 q1; have HB1 := Aside0.mk (below_then HB.out HB.out.size hb1); have HN2 := Aside0.mk (HN1.out w1 HB1.out); clear hb1 HN1)
        | (go_at_call 11; (with_reducible refine HN2.out.mono ?_); clear HN2; rintro e w2 ⟨a1, rfl, hb2⟩; have HB2 := Aside0.mk (below_then HB1.out HB1.out.size hb2); clear hb2)
        | (go_at_call 12; refine (alive_calls _).mono ?_; rintro e w5 ⟨rfl, hb5⟩; have HB5 := Aside0.mk (below_then HB2.out HB2.out.size hb5); clear hb5))
      go_ret
      exact ⟨rfl, HB5.out⟩
  · have y0 : (z0 != 0) = true := by simpa using e0
    clear hno e0
    go_enter Tryz.func5, Tryz.ntmps5
    go_wp2_with (first
      | (go_at_call 11; (with_reducible refine HN0.out.mono ?_); clear HN0; rintro e w1 ⟨a0, rfl, hb1⟩; have q2 := pw_cell_below hb1 q1; have HB1 := Aside0.mk (below_then HB.out HB.out.size hb1); have HN2 := Aside0.mk (HN1.out w1 HB1.out); clear hb1 HN1)
      | (go_at_call 11; (with_reducible refine HN2.out.mono ?_); clear HN2; rintro e w2 ⟨a1, rfl, hb2⟩; have HB2 := Aside0.mk (below_then HB1.out HB1.out.size hb2); clear hb2)
      | (go_at_call 12; refine (alive_calls _).mono ?_; rintro e w5 ⟨rfl, hb5⟩; have HB5 := Aside0.mk (below_then HB2.out HB2.out.size hb5); clear hb5))
    go_ret
    exact ⟨rfl, HB5.out⟩
theorem relMade_calls {W : World} (width : Int) (hw : (Lit.int .i64 width).wf = true) (A0 : Option Addr) (c0 : Nat) (s0 : List Int) (h0 : Sl W A0 c0 s0) (A1 : Option Addr) (c1 : Nat) (s1 : List Int) (h1 : Sl W A1 c1 s1) (A2 : Option Addr) (c2 : Nat) (ls : List (List Int)) (hs : Rs W A2 c2 ls) (hz : (∀ t ∈ ls, t.length * 8 ≤ 140737488351232) ∧ ls.length * 24 ≤ 140737488351232) (W' : World) (e : W' = W) :
    Calls Tryz.prog 5 #[.int .i64 width, .agg #[.slice A0 s0.length c0, .slice A1 s1.length c1], .slice A2 ls.length c2] W' fun e w' => e = .returned (.bool true) ∧ Below W.heap.size W w' := by
  subst e
  by_cases hok : rwrongS width s0 = 0 ∧ rwrongS width s1 = 0 ∧ ls.length ≤ 100
  · exact made_main W' width A0 c0 s0 h0 A1 c1 s1 h1 A2 c2 ls hs.C hz.1 hs.le hok
  · exact made_else W' width A0 c0 s0 h0 A1 c1 s1 h1 A2 ls.length c2 hok
section
variable {H : Type} {enc : TypeId × Value → H} {W : World} {base b0 : Nat} {held : Bool}
set_option maxRecDepth 100000 in
theorem open_arr2 {v : Value} {d : DataW H} {p : List MemPlace} (hv : Value.okWide Tryz.prog W .any b0 43 v) (h : DataW.Trod enc Tryz.prog W base (fun _ => true) held 43 v d p) :
    ∃ A1 c1 l1 A2 c2 l2, v = .agg #[.slice A1 l1.length c1, .slice A2 l2.length c2] ∧ Sl W A1 c1 l1 ∧ Sl W A2 c2 l2 := by
  obtain ⟨cs, rfl, hs⟩ := okWide_array Tryz.underlying43 hv
  obtain ⟨x, y, rfl⟩ := arr_two (hs.trans (by kernel_rfl))
  obtain ⟨fuel, hf⟩ := h
  obtain ⟨y0, y1, n, _, h0, h1⟩ := trod_array2 Tryz.underlying43 (by kernel_rfl) hf
  obtain ⟨A1, m1, c1, e1⟩ := slice_form Tryz.underlying23 h0
  obtain ⟨A2, m2, c2, e2⟩ := slice_form Tryz.underlying23 h1
  simp only [List.cons.injEq, and_true] at e1 e2
  subst e1 e2
  obtain ⟨l1, rfl, s1, _⟩ := sl_of_trod h0
  obtain ⟨l2, rfl, s2, _⟩ := sl_of_trod h1
  exact ⟨A1, c1, l1, A2, c2, l2, rfl, s1, s2⟩
end
end Go.Proofs.YtcmllllbmgcnlaaGreat.Rl
end
