/- slices.Clone at numbers: a row of the call's own with the same cells. chain.unlike: cloned, sorted, each once, no 0. chain.unlike: from contract to contract; the walk. Rows that grow: plain. Rows that grow: each place lies in one. Plain. Contains; Pick, the package's and the reference's. Pick, the package's and the reference's: contracts. Orders out of rows that grow: plain. One search more; searches of which none is within another; a row of growing ones: plain. chain.chains: the rows, each in memory of its own. chain.chains: the walk. chain.Least. -/
import Derived.Test.YtcmllllbmgcnlaaKc1
import Derived.Laws.Externs
import Derived.Laws.NewBlocks
import Derived.Lib.SliceRun
import Derived.Lib.JoinLaws
import Derived.Laws.CopyOwn
import Derived.WalkSpells
import Derived.Lib.LazyBuf
import Derived.Test.YtcmllllbmgcnlaaCAll
import Derived.Shelf.SortM.Plain
import Derived.Shelf.SortM.SortNone
import Derived.Shelf.SlicesE.Compact
import Derived.Shelf.SlicesE.DeleteFunc
import Derived.Ground.SlgmProg
import Derived.Ground.SlgnProg
import Derived.Ground.SlgfProg
import Derived.Lib.OwnBridge
import Derived.Lib.AppendIntMem
import Derived.Test.YtcmllllbmgcnlaaKc2
import Derived.Laws.BitsAllLaws
import Derived.Deep.QuietTactic
import Derived.WalkMore
namespace Go.Proofs.Ytcmllllbmgcnlaa.ChT
open Go.RowKit Go.Lib Go.Proofs.Ytcmllllbmgcnlaa.C Go.Proofs.YtcmllllbmgcnlaaW.PrintWords Go.Proofs.YtcmllllbmgcnlaaW.PrintLast Go.Proofs.YtcmllllbmgcnlaaW.PrintMore
set_option linter.unusedVariables false
set_option linter.unusedSimpArgs false

theorem clI_info : (Try.prog.info? 3).map (fun i => (i.zero, i.size, i.bytes)) = some (some (.int .i64 0), 1, 8) := by kernel_rfl

set_option maxHeartbeats 2000000 in
set_option maxRecDepth 100000 in
theorem clI_nil (w : World) (c : Nat) : Calls Try.prog 47 #[.slice none 0 c] w fun e w' => e = .returned (.slice none 0 0) ∧ w = w' := by
  have q22 : ∀ (w : World) (a : Option Addr) (n c : Nat), (binOp .eql 22 (.slice a n c) (.slice none 0 0)).run Try.prog w = .ok (.bool a.isNone) w := fun w a n c => Lib.run_eql_slice_nil w 22 3 a n c 0 0 Try.underlying22
  go_enter Try.func47, Try.ntmps47
  go_wp2
  go_ret
  exact ⟨rfl, rfl⟩

/-- What a clone is. -/
def ClI (w : World) (n : Nat) (xs : List Value) (e : Ending) (w' : World) : Prop :=
  ∃ v', e = .returned v' ∧ w'.ownsRow w.heap.size 3 1 v' n xs ∧ Below w.heap.size w w'

set_option maxHeartbeats 2000000 in
set_option maxRecDepth 100000 in
theorem clI_some (w : World) (ad : Addr) (n c : Nat) (xs : List Value) (hl : xs.length = n) (hcs : ∀ j u, xs[j]? = some u → w.cell? (ad.add j) = some u) (h1 : ∀ u ∈ xs, u.oneCell' = true) (hn : n * 8 ≤ 140737488351232) (hn2 : n ≤ maxLen) :
    Calls Try.prog 47 #[.slice (some ad) n c] w (ClI w n xs) := by
  obtain ⟨i0, hi, hz0, hz1, hz2⟩ := info_parts clI_info
  have hcs2 : ∀ o : Obj, ∀ j u, xs[j]? = some u → (w.alloc o).cell? (ad.add j) = some u := fun o j u hj => pw_cell_below (below_alloc (Below.refl _ _) o) (hcs j u hj)
  have HH := Aside0.mk hcs2
  have H1 := Aside0.mk h1
  have HL := Aside0.mk hl
  clear hcs hcs2 h1 hl
  have q22 : ∀ (w : World) (a : Option Addr) (n c : Nat), (binOp .eql 22 (.slice a n c) (.slice none 0 0)).run Try.prog w = .ok (.bool a.isNone) w := fun w a n c => Lib.run_eql_slice_nil w 22 3 a n c 0 0 Try.underlying22
  go_enter Try.func47, Try.ntmps47
  go_wp2_with ((with_reducible refine gate_builtin (b := .append) (xs := #[.tmp 5, .tmp 6]) rfl ?_); refine wpList_append_own_at _ rfl _ _ 22 rfl w.heap.size 3 i0 (.int .i64 0) 1 8 Try.underlying22 hi hz0 hz1 hz2 rfl (by decide) (.slice (some ⟨w.heap.size, 0, none⟩) 0 0) 0 [] rfl ⟨rfl, .inr ⟨w.heap.size, 0, #[], rfl, Nat.le_refl _, heap_alloc_new _ _, Nat.le_refl _, Nat.zero_le _, rfl, rfl⟩⟩ ad n c xs rfl (by have := HL.out; omega) (HH.out _) H1.out (by omega) (by omega) (by simp) ?_; intro v' w1 hown1 hg1 _ hat1)
  go_ret
  refine ⟨_, rfl, by simpa using hown1, ?_⟩
  exact (below_alloc (Below.refl _ _) _).grown hg1 (by simp) (fun k hk => by cases hk; exact Nat.le_refl _)

/-- slices.Clone: nil or not. -/
theorem clI_calls (w : World) (A : Option Addr) (n c : Nat) (xs : List Value) (hl : xs.length = n) (hA : A = none → n = 0) (hcs : ∀ ad, A = some ad → ∀ j u, xs[j]? = some u → w.cell? (ad.add j) = some u) (h1 : ∀ u ∈ xs, u.oneCell' = true) (hn : n * 8 ≤ 140737488351232) (hn2 : n ≤ maxLen) :
    Calls Try.prog 47 #[.slice A n c] w (ClI w n xs) := by
  cases A with
  | none =>
    obtain rfl := hA rfl
    refine (clI_nil w c).mono ?_
    rintro e w' ⟨rfl, rfl⟩
    exact ⟨_, rfl, ⟨by simpa using hl, .inl ⟨rfl, rfl⟩⟩, Below.refl _ _⟩
  | some ad => exact clI_some w ad n c xs hl (hcs ad rfl) h1 hn hn2

end Go.Proofs.Ytcmllllbmgcnlaa.ChT

namespace Go.Proofs.Ytcmllllbmgcnlaa.Ch
open Go.Shelf Go.Sort Go.Lib Go.RowKit Go.Proofs.Ytcmllllbmgcnlaa.C Go.Proofs.Ytcmllllbmgcnlaa.ChT Go.Proofs.YtcmllllbmgcnlaaW.PrintWords Go.Proofs.YtcmllllbmgcnlaaW.PrintLast Go.Proofs.YtcmllllbmgcnlaaW.PrintMore
set_option linter.unusedVariables false
set_option linter.unusedSimpArgs false

def Try.sort94_ren : Go.Shelf.Ren := ⟨fun | 5 => 94 | 8 => 103 | 7 => 102 | 19 => 116 | 20 => 117 | 10 => 107 | 11 => 108 | 12 => 109 | 13 => 110 | 14 => 111 | 15 => 112 | 16 => 113 | 17 => 114 | 18 => 115 | 30 => 118 | 31 => 119 | 32 => 120 | 33 => 121 | 34 => 122 | 35 => 93 | 40 => 123 | n => n, fun | 23 => 22 | 25 => 3 | 3 => 3 | 32 => 104 | 22 => 22 | 0 => 0 | 44 => 127 | 46 => 129 | 4 => 4 | 36 => 136 | 35 => 135 | 41 => 78 | 5 => 5 | 9 => 9 | 53 => 142 | 57 => 146 | 63 => 148 | 64 => 72 | n => n, fun | n => n⟩
theorem Try.sort94 : Go.Proofs.SlLaysM.n5 Try.prog Try.sort94_ren := {
  mixed := by kernel_rfl
  f5 := ⟨Try.f94.name, by decide, Try.func94.trans (congrArg some (by kernel_rfl))⟩
  f7 := ⟨Try.f102.name, by decide, Try.func102.trans (congrArg some (by kernel_rfl))⟩
  f8 := Try.func103.trans (congrArg some (by kernel_rfl))
  f10 := ⟨Try.f107.name, by decide, Try.func107.trans (congrArg some (by kernel_rfl))⟩
  f11 := ⟨Try.f108.name, by decide, Try.func108.trans (congrArg some (by kernel_rfl))⟩
  f12 := ⟨Try.f109.name, by decide, Try.func109.trans (congrArg some (by kernel_rfl))⟩
  f13 := ⟨Try.f110.name, by decide, Try.func110.trans (congrArg some (by kernel_rfl))⟩
  f14 := ⟨Try.f111.name, by decide, Try.func111.trans (congrArg some (by kernel_rfl))⟩
  f15 := ⟨Try.f112.name, by decide, Try.func112.trans (congrArg some (by kernel_rfl))⟩
  f16 := ⟨Try.f113.name, by decide, Try.func113.trans (congrArg some (by kernel_rfl))⟩
  f17 := ⟨Try.f114.name, by decide, Try.func114.trans (congrArg some (by kernel_rfl))⟩
  f18 := ⟨Try.f115.name, by decide, Try.func115.trans (congrArg some (by kernel_rfl))⟩
  f19 := Try.func116.trans (congrArg some (by kernel_rfl))
  f20 := Try.func117.trans (congrArg some (by kernel_rfl))
  f30 := ⟨Try.f118.name, by decide, Try.func118.trans (congrArg some (by kernel_rfl))⟩
  f31 := Try.func119.trans (congrArg some (by kernel_rfl))
  f32 := Try.func120.trans (congrArg some (by kernel_rfl))
  f33 := ⟨Try.f121.name, by decide, Try.func121.trans (congrArg some (by kernel_rfl))⟩
  f34 := ⟨Try.f122.name, by decide, Try.func122.trans (congrArg some (by kernel_rfl))⟩
  f35 := ⟨Try.f93.name, by decide, Try.func93.trans (congrArg some (by kernel_rfl))⟩
  f40 := ⟨Try.f123.name, by decide, Try.func123.trans (congrArg some (by kernel_rfl))⟩
  t0 := Try.underlying0
  a0 := Try.isAgg0
  z0 := Try.sizeOf0
  v0 := Try.zeroValue0
  t3 := Try.underlying3
  a3 := Try.isAgg3
  z3 := Try.sizeOf3
  v3 := Try.zeroValue3
  t4 := Try.underlying4
  a4 := Try.isAgg4
  z4 := Try.sizeOf4
  v4 := Try.zeroValue4
  t5 := Try.underlying5
  a5 := Try.isAgg5
  z5 := Try.sizeOf5
  v5 := Try.zeroValue5
  t9 := Try.underlying9
  a9 := Try.isAgg9
  z9 := Try.sizeOf9
  v9 := Try.zeroValue9
  t22 := Try.underlying22
  a22 := Try.isAgg22
  z22 := Try.sizeOf22
  v22 := Try.zeroValue22
  t23 := Try.underlying22
  a23 := Try.isAgg22
  z23 := Try.sizeOf22
  v23 := Try.zeroValue22
  t25 := Try.underlying3
  a25 := Try.isAgg3
  z25 := Try.sizeOf3
  v25 := Try.zeroValue3
  t32 := Try.underlying104
  a32 := Try.isAgg104
  z32 := Try.sizeOf104
  v32 := Try.zeroValue104
  t35 := Try.underlying135
  a35 := Try.isAgg135
  z35 := Try.sizeOf135
  v35 := Try.zeroValue135
  t36 := Try.underlying136
  a36 := Try.isAgg136
  z36 := Try.sizeOf136
  v36 := Try.zeroValue136
  t41 := Try.underlying78
  a41 := Try.isAgg78
  z41 := Try.sizeOf78
  v41 := Try.zeroValue78
  t44 := Try.underlying127
  a44 := Try.isAgg127
  z44 := Try.sizeOf127
  v44 := Try.zeroValue127
  t46 := Try.underlying129
  a46 := Try.isAgg129
  z46 := Try.sizeOf129
  v46 := Try.zeroValue129
  t53 := Try.underlying142
  a53 := Try.isAgg142
  z53 := Try.sizeOf142
  v53 := Try.zeroValue142
  t57 := Try.underlying146
  a57 := Try.isAgg146
  z57 := Try.sizeOf146
  v57 := Try.zeroValue146
  t63 := Try.underlying148
  a63 := Try.isAgg148
  z63 := Try.sizeOf148
  v63 := Try.zeroValue148
  t64 := Try.underlying72
  a64 := Try.isAgg72
  z64 := Try.sizeOf72
  v64 := Try.zeroValue72 }
def Try.compact95_ren : Go.Shelf.Ren := ⟨fun | 43 => 95 | n => n, fun | 22 => 22 | 23 => 3 | 3 => 3 | 4 => 4 | 0 => 0 | n => n, fun | n => n⟩
theorem Try.compact95 : Go.Proofs.SlLaysE.n43 Try.prog Try.compact95_ren := {
  mixed := by kernel_rfl
  f43 := ⟨Try.f95.name, by decide, Try.func95.trans (congrArg some (by kernel_rfl))⟩
  t0 := Try.underlying0
  a0 := Try.isAgg0
  z0 := Try.sizeOf0
  v0 := Try.zeroValue0
  t3 := Try.underlying3
  a3 := Try.isAgg3
  z3 := Try.sizeOf3
  v3 := Try.zeroValue3
  t4 := Try.underlying4
  a4 := Try.isAgg4
  z4 := Try.sizeOf4
  v4 := Try.zeroValue4
  t22 := Try.underlying22
  a22 := Try.isAgg22
  z22 := Try.sizeOf22
  v22 := Try.zeroValue22
  a23 := Try.isAgg3
  z23 := Try.sizeOf3 }
def Try.del96_ren : Go.Shelf.Ren := ⟨fun | 10 => 96 | 6 => 104 | n => n, fun | 22 => 22 | 23 => 3 | 25 => 108 | 3 => 3 | 4 => 4 | 0 => 0 | n => n, fun | n => n⟩
theorem Try.del96 : Go.Proofs.SlLaysH.n10 Try.prog Try.del96_ren := {
  mixed := by kernel_rfl
  f6 := ⟨Try.f104.name, by decide, Try.func104.trans (congrArg some (by kernel_rfl))⟩
  f10 := ⟨Try.f96.name, by decide, Try.func96.trans (congrArg some (by kernel_rfl))⟩
  t0 := Try.underlying0
  a0 := Try.isAgg0
  z0 := Try.sizeOf0
  v0 := Try.zeroValue0
  t3 := Try.underlying3
  a3 := Try.isAgg3
  z3 := Try.sizeOf3
  v3 := Try.zeroValue3
  t4 := Try.underlying4
  a4 := Try.isAgg4
  z4 := Try.sizeOf4
  v4 := Try.zeroValue4
  t22 := Try.underlying22
  a22 := Try.isAgg22
  z22 := Try.sizeOf22
  v22 := Try.zeroValue22
  a23 := Try.isAgg3
  z23 := Try.sizeOf3
  t25 := Try.underlying108
  a25 := Try.isAgg108
  z25 := Try.sizeOf108
  v25 := Try.zeroValue108 }
def Try.idx104_ren : Go.Shelf.Ren := ⟨fun | 6 => 104 | n => n, fun | 22 => 22 | 23 => 3 | 25 => 108 | 3 => 3 | 0 => 0 | 4 => 4 | n => n, fun | n => n⟩
theorem Try.idx104 : Go.Proofs.SlLaysH.n6 Try.prog Try.idx104_ren := {
  mixed := by kernel_rfl
  f6 := ⟨Try.f104.name, by decide, Try.func104.trans (congrArg some (by kernel_rfl))⟩
  t0 := Try.underlying0
  a0 := Try.isAgg0
  z0 := Try.sizeOf0
  v0 := Try.zeroValue0
  t3 := Try.underlying3
  a3 := Try.isAgg3
  z3 := Try.sizeOf3
  v3 := Try.zeroValue3
  t4 := Try.underlying4
  a4 := Try.isAgg4
  z4 := Try.sizeOf4
  v4 := Try.zeroValue4
  t22 := Try.underlying22
  a22 := Try.isAgg22
  z22 := Try.sizeOf22
  v22 := Try.zeroValue22
  a23 := Try.isAgg3
  z23 := Try.sizeOf3
  t25 := Try.underlying108
  a25 := Try.isAgg108
  z25 := Try.sizeOf108
  v25 := Try.zeroValue108 }

/-- Sorted numbers, each once. -/
theorem compact_spec {d : Array Int} (hs : ∀ i j, i < j → j < d.size → d[i]! ≤ d[j]!) : ∀ m, m ≤ d.size → (compactUpTo d m).Pairwise (· < ·) ∧ (∀ x, x ∈ compactUpTo d m ↔ ∃ j, j < m ∧ d[j]! = x)
  | 0, _ => ⟨by simp [compactUpTo], fun x => by simp [compactUpTo]⟩
  | m + 1, hm => by
    obtain ⟨h1, h2⟩ := compact_spec hs m (by omega)
    rw [compactUpTo_succ]
    by_cases hk : keeps d m = true
    · rw [if_pos hk]
      refine ⟨?_, fun x => ?_⟩
      · rw [List.pairwise_append]
        refine ⟨h1, by simp, fun a ha b hb => ?_⟩
        rw [List.mem_singleton] at hb
        subst hb
        obtain ⟨j, hj, rfl⟩ := (h2 a).1 ha
        have hm0 : 0 < m := by omega
        have hne : d[m]! ≠ d[m - 1]! := by
          simp only [keeps, Bool.or_eq_true, decide_eq_true_eq] at hk
          first
            | (rcases hk with hk | hk
               · omega
               · simpa using hk)
            | simpa using hk
        have h3 := hs (m - 1) m (by omega) (by omega)
        by_cases e : j = m - 1
        · subst e; omega
        · have := hs j (m - 1) (by omega) (by omega); omega
      · rw [List.mem_append, h2, List.mem_singleton]
        constructor
        · rintro (⟨j, hj, e⟩ | e)
          · exact ⟨j, by omega, e⟩
          · exact ⟨m, by omega, e.symm⟩
        · rintro ⟨j, hj, e⟩
          rcases Nat.lt_or_eq_of_le (Nat.le_of_lt_succ hj) with h | h
          · exact .inl ⟨j, h, e⟩
          · subst h; exact .inr e.symm
    · rw [if_neg hk, List.append_nil]
      refine ⟨h1, fun x => ?_⟩
      rw [h2]
      constructor
      · rintro ⟨j, hj, e⟩; exact ⟨j, by omega, e⟩
      · rintro ⟨j, hj, e⟩
        rcases Nat.lt_or_eq_of_le (Nat.le_of_lt_succ hj) with h | h
        · exact ⟨j, h, e⟩
        · subst h
          have : 0 < j ∧ d[j]! = d[j - 1]! := by
            simp only [keeps, Bool.or_eq_true, decide_eq_true_eq, not_or] at hk
            first
              | exact ⟨by omega, by simpa using hk.2⟩
              | simpa using hk
          exact ⟨j - 1, by omega, by rw [← this.2]; exact e⟩

/-- What unlike keeps of l. -/
def unS (l : List Int) : List Int := (compactUpTo (l.mergeSort fun x y => decide (x ≤ y)).toArray (l.mergeSort fun x y => decide (x ≤ y)).toArray.size).filter fun x => !decide (x = 0)

theorem unS_spec (l : List Int) : (unS l).Nodup ∧ (∀ x, x ∈ unS l ↔ Un l x) ∧ (unS l).length ≤ l.length := by
  obtain ⟨d, hd⟩ : ∃ d, d = (l.mergeSort fun x y => decide (x ≤ y)).toArray := ⟨_, rfl⟩
  have hperm : (l.mergeSort fun x y => decide (x ≤ y)).Perm l := List.mergeSort_perm l _
  have hsort : (l.mergeSort fun x y => decide (x ≤ y)).Pairwise (fun a b => decide (a ≤ b) = true) := List.pairwise_mergeSort (fun a b c h1 h2 => by simp at h1 h2 ⊢; omega) (fun a b => by simp; omega) l
  have hs : ∀ i j, i < j → j < d.size → d[i]! ≤ d[j]! := fun i j hij hj => by
    have hjl : j < (l.mergeSort fun x y => decide (x ≤ y)).length := by rw [hd] at hj; simpa using hj
    have := List.pairwise_iff_getElem.1 hsort i j (by omega) hjl hij
    rw [getElem!_pos d i (by omega), getElem!_pos d j hj]
    subst hd
    simpa using this
  obtain ⟨h1, h2⟩ := compact_spec hs d.size (Nat.le_refl _)
  have hm : ∀ x, x ∈ compactUpTo d d.size ↔ x ∈ l := fun x => by
    rw [h2, ← hperm.mem_iff]
    constructor
    · rintro ⟨j, hj, rfl⟩
      rw [getElem!_pos d j hj]
      subst hd
      simp
    · intro hx
      obtain ⟨j, hj, rfl⟩ := List.getElem_of_mem hx
      have hjd : j < d.size := by rw [hd]; simpa using hj
      exact ⟨j, hjd, by rw [getElem!_pos d j hjd]; subst hd; simp⟩
  have hn : (compactUpTo d d.size).Nodup := h1.imp fun h => by omega
  unfold unS
  rw [← hd]
  refine ⟨List.Nodup.sublist List.filter_sublist hn, fun x => ?_, ?_⟩
  · rw [List.mem_filter, hm]
    simp [Un]
  · refine Nat.le_trans (List.length_filter_le _ _) ?_
    exact le_of_nodup hn fun x hx => (hm x).1 hx

set_option maxRecDepth 100000 in
/-- 's == 0'. -/
theorem closure97 (x : Int) (W : World) : Calls Try.prog 97 #[.int .i64 x] W fun e w' => e = .returned (.bool (decide (x = 0))) ∧ ∃ q, w' = W.drewN q := by
  obtain ⟨r, hr⟩ : ∃ r, r = decide (x = 0) := ⟨_, rfl⟩
  have hr2 : (x == 0) = r := by rw [hr]; by_cases h : x = 0 <;> simp [h]
  rw [← hr]
  clear hr
  go_enter Try.func97, Try.ntmps97
  go_wp2
  all_goals (go_ret; exact ⟨by simp_all, 0, (World.drewN_zero _).symm⟩)

set_option maxRecDepth 100000 in
theorem compact_nil (w : World) : Calls Try.prog 95 #[.slice none 0 0] w fun e w' => e = .returned (.slice none 0 0) ∧ w' = w := by
  go_enter Try.func95, Try.ntmps95
  go_wp2
  go_ret
  exact ⟨rfl, rfl⟩

theorem eg97 : ∀ args w, (callFunc 97 args).run Try.prog w = .ok (.enter 97 args) w := enters_of Try.func97 (by kernel_rfl) rfl

set_option maxRecDepth 100000 in
theorem del_nil (w : World) : Calls Try.prog 96 #[.slice none 0 0, .func (.func 97) #[] #[]] w fun e w' => e = .returned (.slice none 0 0) ∧ w' = w := by
  have hcon := AnyE.slices_IndexFunc_empty Try.idx104 none 0 (.func (.func 97) #[] #[]) w
  change Calls Try.prog 104 _ _ _ at hcon
  go_enter Try.func96, Try.ntmps96
  go_wp2_with (go_at_call 104; refine hcon.mono ?_; rintro e w' ⟨rfl, rfl⟩)
  go_ret
  exact ⟨rfl, rfl⟩

end Go.Proofs.Ytcmllllbmgcnlaa.Ch

namespace Go.Proofs.Ytcmllllbmgcnlaa.Ch
open Go.Shelf Go.Sort Go.Lib Go.RowKit Go.Proofs.Ytcmllllbmgcnlaa.C Go.Proofs.Ytcmllllbmgcnlaa.ChT Go.Proofs.YtcmllllbmgcnlaaW.PrintWords Go.Proofs.YtcmllllbmgcnlaaW.PrintLast Go.Proofs.YtcmllllbmgcnlaaW.PrintMore
set_option linter.unusedVariables false
set_option linter.unusedSimpArgs false

/-- A slice of numbers that the call owns. -/
def Ow (w : World) (base : Nat) (v : Value) (zs : List Int) : Prop := w.ownsRow base 3 1 v zs.length (zs.map (Value.int .i64))

theorem drewN_0 (w : World) : w.drewN 0 = w := World.drewN_zero _

theorem sort_own (w : World) (base : Nat) (v : Value) (zs : List Int) (h : Ow w base v zs) (hb : base ≤ w.heap.size) (hn : zs.length ≤ 4096) :
    Calls Try.prog 94 #[v] w fun e w' => e = .returned (.tuple #[]) ∧ Ow w' base v (zs.mergeSort fun x y => decide (x ≤ y)) ∧ Below base w w' := by
  by_cases hv : v = .slice none 0 0
  · subst hv
    have hz : zs = [] := by
      rcases h.2 with ⟨_, h0⟩ | ⟨g, cap, cur, e, _⟩
      · exact List.length_eq_zero_iff.1 h0
      · cases e
    subst hz
    refine (AnyM.slices_Sort_int_none Try.sort94 none 0 w).mono ?_
    rintro e w' ⟨rfl, rfl⟩
    exact ⟨rfl, by simpa using h, Below.refl _ _⟩
  · obtain ⟨g, cap, rfl, hg, hgl, hnc, hcm, hl, hH⟩ := holds_of_ownsRow h hv
    refine (AnyM.slices_Sort_int Try.sort94 g 0 cap zs w hH hgl (by omega)).mono ?_
    rintro e w' ⟨rfl, q, os, rfl⟩
    have hlen : (zs.mergeSort fun x y => decide (x ≤ y)).length = zs.length := List.length_mergeSort zs
    have h1 := ownsRow_putRow (q := q) (k := zs.length) h hlen (Nat.le_refl _)
    rw [List.take_of_length_le (by omega)] at h1
    have h2 := ownsRow_grow h1 0 os
    rw [drewN_0] at h2
    refine ⟨rfl, ?_, ?_⟩
    · unfold Ow; rw [hlen]; exact h2
    · have h3 : Below base w (putRow (Value.int .i64) (Sort.ahead w q) g 0 (zs.mergeSort fun x y => decide (x ≤ y)).toArray) := below_putRow (Below.refl base w) hg
      have h4 := below_grow base (putRow (Value.int .i64) (Sort.ahead w q) g 0 (zs.mergeSort fun x y => decide (x ≤ y)).toArray) (Nat.le_trans hb h3.size) 0 os
      rw [drewN_0] at h4
      exact h3.trans h4

theorem compact_own (w : World) (base : Nat) (v : Value) (zs : List Int) (h : Ow w base v zs) (hn : zs.length ≤ 4096) :
    Calls Try.prog 95 #[v] w fun e w' => ∃ v', e = .returned v' ∧ Ow w' base v' (compactUpTo zs.toArray zs.toArray.size) ∧ Below base w w' := by
  by_cases hv : v = .slice none 0 0
  · subst hv
    have hz : zs = [] := by
      rcases h.2 with ⟨_, h0⟩ | ⟨g, cap, cur, e, _⟩
      · exact List.length_eq_zero_iff.1 h0
      · cases e
    subst hz
    refine (compact_nil w).mono ?_
    rintro e w' ⟨rfl, rfl⟩
    exact ⟨_, rfl, h, Below.refl _ _⟩
  · obtain ⟨g, cap, rfl, hg, hgl, hnc, hcm, hl, hH⟩ := holds_of_ownsRow h hv
    have hcl : (compactUpTo zs.toArray zs.toArray.size).length ≤ zs.length := by
      have := List.length_filter_le (keeps zs.toArray) (List.range zs.toArray.size)
      simpa [compactUpTo] using this
    refine (AnyE.slices_Compact Try.compact95 (Value.int .i64) (fun _ => rfl) (EqlAt.intD _ _ _) (NeqAt.intD _ _ _) 0 Try.zeroValue3 g 0 cap zs.toArray w hH (by simp; omega) (by simpa using hnc)).mono ?_
    rintro e w' ⟨rfl, q, rfl⟩
    obtain ⟨cs, hcs⟩ : ∃ cs, cs = compactUpTo zs.toArray zs.toArray.size := ⟨_, rfl⟩
    rw [← hcs] at hcl ⊢
    have h1 := ownsRow_putRow (q := q) (k := cs.length) h (ys := cs ++ List.replicate (zs.toArray.size - cs.length) 0) (by simp; omega) hcl
    rw [List.take_append_of_le_length (Nat.le_refl _), List.take_length] at h1
    exact ⟨_, rfl, h1, below_putRow (Below.refl base w) hg⟩

theorem del_own (w : World) (base : Nat) (v : Value) (zs : List Int) (h : Ow w base v zs) (hn : zs.length ≤ 4096) :
    Calls Try.prog 96 #[v, .func (.func 97) #[] #[]] w fun e w' => ∃ v', e = .returned v' ∧ Ow w' base v' (zs.filter fun x => !decide (x = 0)) ∧ Below base w w' := by
  by_cases hv : v = .slice none 0 0
  · subst hv
    have hz : zs = [] := by
      rcases h.2 with ⟨_, h0⟩ | ⟨g, cap, cur, e, _⟩
      · exact List.length_eq_zero_iff.1 h0
      · cases e
    subst hz
    refine (del_nil w).mono ?_
    rintro e w' ⟨rfl, rfl⟩
    exact ⟨_, rfl, h, Below.refl _ _⟩
  · obtain ⟨g, cap, rfl, hg, hgl, hnc, hcm, hl, hH⟩ := holds_of_ownsRow h hv
    have hcl : (zs.filter fun x => !decide (x = 0)).length ≤ zs.length := List.length_filter_le _ _
    refine (AnyE.slices_DeleteFunc Try.del96 (Value.int .i64) (fun _ => rfl) (fun x => decide (x = 0)) 97 #[] eg97 0 Try.zeroValue3 g 0 cap zs.toArray w (fun W x _ => closure97 x W) (fun n os dk x _ => closure97 x _) hH (by simp; omega) (by simpa using hnc)).mono ?_
    rintro e w' ⟨rfl, q, rfl⟩
    simp only [List.size_toArray]
    obtain ⟨cs, hcs⟩ : ∃ cs, cs = zs.filter fun x => !decide (x = 0) := ⟨_, rfl⟩
    rw [← hcs] at hcl ⊢
    have h1 := ownsRow_putRow (q := q) (k := cs.length) h (ys := cs ++ List.replicate (zs.length - cs.length) 0) (by simp; omega) hcl
    rw [List.take_append_of_le_length (Nat.le_refl _), List.take_length] at h1
    exact ⟨_, rfl, h1, below_putRow (Below.refl base w) hg⟩

set_option maxHeartbeats 2000000 in
set_option maxRecDepth 100000 in
theorem cunlike_calls (A : Option Addr) (c : Nat) (l : List Int) (w : World) (h : Sl w A c l) (hn : l.length ≤ 256) :
    Calls Try.prog 85 #[.slice A l.length c] w fun e w' => ∃ v, e = .returned v ∧ Ow w' w.heap.size v (unS l) ∧ Below w.heap.size w w' := by
  have hC := clI_calls w A l.length c (l.map (Value.int .i64)) (by simp) (fun e => by
      subst e
      by_cases h0 : 0 < l.length
      · obtain ⟨ad, e, _⟩ := sl_cells h 0 h0
        cases e
      · omega) (fun ad e j u hj => by
      rw [List.getElem?_map] at hj
      obtain ⟨x, hx, rfl⟩ := Option.map_eq_some_iff.1 hj
      obtain ⟨hjl, hx⟩ := List.getElem?_eq_some_iff.1 hx
      obtain ⟨ad', e', hc⟩ := sl_cells h j hjl
      rw [e] at e'
      injection e' with e'
      subst e'
      rw [hc, hx]) (fun u hu => by
      obtain ⟨x, _, rfl⟩ := List.mem_map.1 hu
      rfl) (by omega) (by have : maxLen = 9223372036854775807 := rfl; omega)
  have HN := Aside0.mk hn
  have HC := Aside0.mk hC
  obtain ⟨r, hr⟩ : ∃ r, r = unS l := ⟨_, rfl⟩
  have HR := Aside0.mk hr
  rw [← hr]
  clear h hC hr hn
  go_enter Try.func85, Try.ntmps85
  go_wp2_with (first
    | (go_at_call 47; refine (HC.out).mono ?_; rintro e w1 ⟨v1, rfl, ho1, hb1⟩; have HO1 : Aside0 (Ow w1 w.heap.size v1 l) := ⟨ho1⟩; have HB1 := Aside0.mk hb1; clear ho1 hb1)
    | (go_at_call 94; refine (sort_own _ w.heap.size v1 l HO1.out HB1.out.size (by have := HN.out; omega)).mono ?_; rintro e w2 ⟨rfl, ho2, hb2⟩; have HO2 := Aside0.mk ho2; have HB2 := Aside0.mk hb2; clear ho2 hb2)
    | (go_at_call 95; refine (compact_own _ w.heap.size v1 _ HO2.out (by have := HN.out; rw [List.length_mergeSort]; omega)).mono ?_; rintro e w3 ⟨v3, rfl, ho3, hb3⟩; have HO3 := Aside0.mk ho3; have HB3 := Aside0.mk hb3; clear ho3 hb3)
    | (go_at_call 96; refine (del_own _ w.heap.size v3 _ HO3.out (by
        have h1 := List.length_filter_le (keeps (l.mergeSort fun x y => decide (x ≤ y)).toArray) (List.range (l.mergeSort fun x y => decide (x ≤ y)).toArray.size)
        have := HN.out
        simp only [compactUpTo, List.length_map]
        refine Nat.le_trans h1 ?_
        simp [List.length_mergeSort]; omega)).mono ?_; rintro e w4 ⟨v4, rfl, ho4, hb4⟩; have HO4 := Aside0.mk ho4; have HB4 := Aside0.mk hb4; clear ho4 hb4))
  go_ret
  exact ⟨_, rfl, by rw [HR.out]; exact HO4.out, ((HB1.out.trans HB2.out).trans HB3.out).trans HB4.out⟩

end Go.Proofs.Ytcmllllbmgcnlaa.Ch

namespace Go.Proofs.Ytcmllllbmgcnlaa.Ch
open Go.RowKit Go.Lib Go.Proofs.Ytcmllllbmgcnlaa.C Go.Proofs.Ytcmllllbmgcnlaa.ChT Go.Proofs.YtcmllllbmgcnlaaW.PrintWords
set_option linter.unusedVariables false
set_option linter.unusedSimpArgs false

theorem i64_and_nat (a b : Nat) (ha : a < 256) (hb : b < 256) : Go.bits .and .i64 (a : Int) (b : Int) = ((a &&& b : Nat) : Int) := by
  have hx : a &&& b < 2 ^ 8 := Nat.and_lt_two_pow _ (by omega)
  show IntKind.i64.wrap ((BitVec.ofInt 64 (a : Int) &&& BitVec.ofInt 64 (b : Int)).toNat : Int) = _
  rw [BitVec.toNat_and, ofInt_u64 a (by omega), ofInt_u64 b (by omega), IntKind.wrap_i64]
  omega
theorem i64_and (a b : Int) (h1 : 0 ≤ a) (h2 : a < 256) (h3 : 0 ≤ b) (h4 : b < 256) : Go.bits .and .i64 a b = ((a.toNat &&& b.toNat : Nat) : Int) := by
  obtain ⟨A, rfl⟩ := Int.eq_ofNat_of_zero_le h1
  obtain ⟨B, rfl⟩ := Int.eq_ofNat_of_zero_le h3
  simpa using i64_and_nat A B (by omega) (by omega)
theorem and_le {a b : Int} (h1 : 0 ≤ a) (h2 : a < 256) (h3 : 0 ≤ b) (h4 : b < 256) (h : Go.bits .and .i64 a b = a) : a ≤ b := by
  rw [i64_and a b h1 h2 h3 h4] at h
  have : a.toNat &&& b.toNat ≤ b.toNat := Nat.and_le_right
  omega

theorem unS_sorted (l : List Int) : (unS l).Pairwise (· < ·) := by
  obtain ⟨d, hd⟩ : ∃ d, d = (l.mergeSort fun x y => decide (x ≤ y)).toArray := ⟨_, rfl⟩
  have hsort : (l.mergeSort fun x y => decide (x ≤ y)).Pairwise (fun a b => decide (a ≤ b) = true) := List.pairwise_mergeSort (fun a b c h1 h2 => by simp at h1 h2 ⊢; omega) (fun a b => by simp; omega) l
  have hs : ∀ i j, i < j → j < d.size → d[i]! ≤ d[j]! := fun i j hij hj => by
    have hjl : j < (l.mergeSort fun x y => decide (x ≤ y)).length := by rw [hd] at hj; simpa using hj
    have := List.pairwise_iff_getElem.1 hsort i j (by omega) hjl hij
    rw [getElem!_pos d i (by omega), getElem!_pos d j hj]
    subst hd
    simpa using this
  unfold unS
  rw [← hd]
  exact (compact_spec hs d.size (Nat.le_refl _)).1.sublist List.filter_sublist

/-- An edge goes up. -/
theorem edge_up {u : List Int} (hu : u.Pairwise (· < ·)) (h8 : ∀ x ∈ u, 0 ≤ x ∧ x < 256) {s k : Nat} (hs : s < u.length) (hk : k < u.length) (h : Ed (fun k => u[k]!) s k) : s < k := by
  obtain ⟨hne, he⟩ := h
  simp only [getElem!_pos u k hk, getElem!_pos u s hs] at he
  have h1 := h8 u[s] (List.getElem_mem _)
  have h2 := h8 u[k] (List.getElem_mem _)
  have h3 := and_le h1.1 h1.2 h2.1 h2.2 he
  rcases Nat.lt_trichotomy s k with h | h | h
  · exact h
  · exact absurd h.symm hne
  · have := List.pairwise_iff_getElem.1 hu k s hk hs h
    omega

end Go.Proofs.Ytcmllllbmgcnlaa.Ch

namespace Go.Proofs.Ytcmllllbmgcnlaa.Ch
open Go.RowKit Go.Lib Go.Proofs.Ytcmllllbmgcnlaa.C Go.Proofs.Ytcmllllbmgcnlaa.ChT Go.Proofs.YtcmllllbmgcnlaaW.PrintWords
set_option linter.unusedVariables false
set_option linter.unusedSimpArgs false

/-- The row that begins at k. -/
def rowFrom (tt : Nat → Int) : Nat → Int → List Nat
  | 0, _ => []
  | f + 1, k => if k < 0 then [] else k.toNat :: rowFrom tt f (tt k.toNat)

theorem rowFrom_neg (tt : Nat → Int) (f : Nat) (k : Int) (h : k < 0) : rowFrom tt f k = [] := by
  cases f with
  | zero => rfl
  | succ f => simp [rowFrom, h]

section
variable {n : Nat} {E : Nat → Nat → Prop} {tt fr : Nat → Int}
/-- Enough fuel: more gives the same. -/
theorem rowFrom_fuel (hm : Mt n E (-1) tt fr) (hup : ∀ s k, s < n → k < n → E s k → s < k) : ∀ (f g k : Nat), k < n → n - k ≤ f → n - k ≤ g → rowFrom tt f k = rowFrom tt g k
  | 0, _, k, hk, hf, _ => by omega
  | f + 1, 0, k, hk, _, hg => by omega
  | f + 1, g + 1, k, hk, hf, hg => by
    simp only [rowFrom]
    rw [if_neg (by omega), if_neg (by omega), Int.toNat_natCast]
    congr 1
    rcases hm.rt k hk with e | ⟨q, hq, e⟩
    · rw [rowFrom_neg _ _ _ (by omega), rowFrom_neg _ _ _ (by omega)]
    · have := hup k q hk hq (hm.tf k hk q e).2.1
      rw [e]
      exact rowFrom_fuel hm hup f g q hq (by omega) (by omega)

/-- A step along the row. -/
theorem rowFrom_step (hm : Mt n E (-1) tt fr) (hup : ∀ s k, s < n → k < n → E s k → s < k) (k : Nat) (hk : k < n) : rowFrom tt n k = k :: rowFrom tt n (tt k) := by
  obtain ⟨m, rfl⟩ : ∃ m, n = m + 1 := ⟨n - 1, by omega⟩
  show (if (k : Int) < 0 then [] else (k : Int).toNat :: rowFrom tt m (tt (k : Int).toNat)) = _
  rw [if_neg (by omega), Int.toNat_natCast]
  congr 1
  rcases hm.rt k hk with e | ⟨q, hq, e⟩
  · rw [rowFrom_neg _ _ _ (by omega), rowFrom_neg _ _ _ (by omega)]
  · have := hup k q hk hq (hm.tf k hk q e).2.1
    rw [e]
    exact rowFrom_fuel hm hup m (m + 1) q hq (by omega) (by omega)

/-- Each place lies in the row of one that follows none. -/
theorem in_row (hm : Mt n E (-1) tt fr) (hup : ∀ s k, s < n → k < n → E s k → s < k) : ∀ (j : Nat), j < n → ∃ (i : Nat) (pre : List Nat), i < n ∧ fr i < 0 ∧ rowFrom tt n i = pre ++ rowFrom tt n j := by
  intro j
  induction j using Nat.strongRecOn with
  | _ j ih =>
    intro hj
    rcases hm.rf j hj with e | ⟨s, hs, e⟩
    · exact ⟨j, [], hj, by omega, rfl⟩
    · have hto := hm.ft j hj (by omega) s e
      have hlt := hup s j hs hj (hm.tf s hs j hto).2.1
      obtain ⟨i, pre, hi, hfi, h⟩ := ih s hlt hs
      refine ⟨i, pre ++ [s], hi, hfi, ?_⟩
      rw [h, rowFrom_step hm hup s hs, hto]
      simp
end

end Go.Proofs.Ytcmllllbmgcnlaa.Ch

namespace Go.Proofs.Ytcmllllbmgcnlaa.Ch
open Go.RowKit Go.Proofs.Ytcmllllbmgcnlaa.C Go.Proofs.Ytcmllllbmgcnlaa.ChT Go.Proofs.YtcmllllbmgcnlaaW.PrintWords Go.Proofs.YtcmllllbmgcnlaaW.PrintLast Go.Proofs.YtcmllllbmgcnlaaW.PrintMore
set_option linter.unusedVariables false
set_option linter.unusedSimpArgs false

theorem index_loop (l : List Int) (x : Int) (hn : l.length ≤ 9223372036854775806) : ∀ (rest pre : List Int) (k : Nat), l = pre ++ rest → rest.length < k → x ∉ pre →
    ∃ r, slices_Index_int_int.l0 k l x (l.length : Int) (pre.length : Int) = some r ∧ (0 ≤ r ↔ x ∈ l)
  | [], pre, 0, _, hk, _ => by omega
  | [], pre, k + 1, hp, hk, hx => by
    have e : pre.length = l.length := by rw [hp]; simp
    simp only [slices_Index_int_int.l0]
    rw [if_neg (by omega)]
    refine ⟨-1, rfl, fun h => absurd h (by decide), fun h => ?_⟩
    rw [hp] at h
    simp at h
    exact absurd h hx
  | y :: rest, pre, 0, _, hk, _ => by omega
  | y :: rest, pre, k + 1, hp, hk, hx => by
    have e : l.length = pre.length + rest.length + 1 := by rw [hp]; simp; omega
    have hp' : l = (pre ++ [y]) ++ rest := by rw [hp]; simp
    have ew : wrap64 ((pre.length : Int) + 1) = ((pre ++ [y]).length : Int) := by rw [wrap_nat _ (by omega)]; simp
    have erd : rd l (pre.length : Int) = y := rd_at hp
    simp only [List.length_cons] at hk
    simp only [slices_Index_int_int.l0]
    rw [if_pos (by omega), if_pos (by omega), if_pos (by omega), erd, ew]
    by_cases h : x = y
    · rw [if_pos h]
      exact ⟨_, rfl, fun _ => by rw [hp, h]; simp, fun _ => by omega⟩
    · rw [if_neg h]
      exact index_loop l x hn rest (pre ++ [y]) k hp' (by omega) (by simp [hx, h])

theorem contains_calls (A : Option Addr) (c : Nat) (l : List Int) (x : Int) (w : World) (h : Sl w A c l) (hn : l.length ≤ 4096) :
    Calls Try.prog 73 #[.slice A l.length c, .int .i64 x] w fun e w' => e = .returned (.bool (decide (x ∈ l))) ∧ Drawn0 w w' := by
  refine slices_Contains_int_int.calls (l.length + 1) _ _ l _ _ w h.C h.le ?_
  obtain ⟨r, h1, h2⟩ := index_loop l x (by omega) l [] (l.length + 1) rfl (by omega) (by simp)
  unfold slices_Contains_int_int.f slices_Index_int_int.f
  rw [show (([] : List Int).length : Int) = 0 from rfl] at h1
  rw [h1]
  simp only [Option.bind_some]
  congr 1
  by_cases hx : x ∈ l
  · rw [decide_eq_true hx, decide_eq_true (h2.2 hx)]
  · rw [decide_eq_false hx, decide_eq_false fun h => hx (h2.1 h)]

/-! ### Pick -/
def pickS (s : Int) : Nat → List (List Int) → Int × Bool
  | _, [] => (0, false)
  | i, o :: os => if (coverS o s).2 = true then ((i : Int), true) else pickS s (i + 1) os

theorem len_bound : ∀ os : List (List Int), ∃ B, ∀ o ∈ os, o.length ≤ B
  | [] => ⟨0, fun _ h => by cases h⟩
  | o :: os => by
    obtain ⟨B, h⟩ := len_bound os
    refine ⟨B + o.length, fun p hp => ?_⟩
    rcases List.mem_cons.1 hp with rfl | hp
    · omega
    · have := h p hp; omega

theorem rdL_at' {xs pre rest : List (List Int)} {c : List Int} (h : xs = pre ++ c :: rest) : rd_L1 xs (pre.length : Int) = c := by
  subst h; simp [rd_L1]

theorem pick_loop (s : Int) (os : List (List Int)) (hn : os.length ≤ 9223372036854775806) (B : Nat) (hB : ∀ o ∈ os, o.length ≤ B) : ∀ (rest pre : List (List Int)) (k : Nat), os = pre ++ rest → B + 13 + rest.length < k →
    chain_Pick.l0 k s os (os.length : Int) (pre.length : Int) = some (pickS s pre.length rest)
  | [], pre, 0, _, hk => by omega
  | [], pre, k + 1, hp, hk => by
    have e : pre.length = os.length := by rw [hp]; simp
    simp only [chain_Pick.l0]
    rw [if_neg (by omega)]
    rfl
  | o :: rest, pre, 0, _, hk => by omega
  | o :: rest, pre, k + 1, hp, hk => by
    have e : os.length = pre.length + rest.length + 1 := by rw [hp]; simp; omega
    have hp' : os = (pre ++ [o]) ++ rest := by rw [hp]; simp
    have ew : wrap64 ((pre.length : Int) + 1) = ((pre ++ [o]).length : Int) := by rw [wrap_nat _ (by omega)]; simp
    have ho : o.length ≤ B := hB o (by rw [hp]; simp)
    simp only [List.length_cons] at hk
    simp only [chain_Pick.l0]
    rw [if_pos (by omega), if_pos (by omega), if_pos (by omega), rdL_at' hp, ew, cover_is k o s (by omega)]
    simp only [Option.bind_some, pickS]
    by_cases h : (coverS o s).2 = true
    · rw [if_pos h, if_pos h]
    · rw [if_neg h, if_neg h, pick_loop s os hn B hB rest (pre ++ [o]) k hp' (by omega)]
      simp

theorem rpick_loop (s : Int) (os : List (List Int)) (hn : os.length ≤ 9223372036854775806) (B : Nat) (hB : ∀ o ∈ os, o.length ≤ B) (hB2 : B ≤ 9223372036854775806) : ∀ (rest pre : List (List Int)) (k : Nat), os = pre ++ rest → 2 * B + 13 + rest.length < k →
    vestryref06_Pick.l0 k os s (pre.length : Int) = some (pickS s pre.length rest)
  | [], pre, 0, _, hk => by omega
  | [], pre, k + 1, hp, hk => by
    have e : pre.length = os.length := by rw [hp]; simp
    simp only [vestryref06_Pick.l0]
    rw [if_neg (by omega)]
    rfl
  | o :: rest, pre, 0, _, hk => by omega
  | o :: rest, pre, k + 1, hp, hk => by
    have e : os.length = pre.length + rest.length + 1 := by rw [hp]; simp; omega
    have hp' : os = (pre ++ [o]) ++ rest := by rw [hp]; simp
    have ew : wrap64 ((pre.length : Int) + 1) = ((pre ++ [o]).length : Int) := by rw [wrap_nat _ (by omega)]; simp
    have ho : o.length ≤ B := hB o (by rw [hp]; simp)
    simp only [List.length_cons] at hk
    simp only [vestryref06_Pick.l0]
    rw [if_pos (by omega), if_pos (by omega), rdL_at' hp, ew, rcover_is k o s (by omega) (by omega)]
    simp only [Option.bind_some, pickS]
    by_cases h : (coverS o s).2 = true
    · rw [if_pos h, if_pos h]
    · rw [if_neg h, if_neg h, rpick_loop s os hn B hB hB2 rest (pre ++ [o]) k hp' (by omega)]
      simp

end Go.Proofs.Ytcmllllbmgcnlaa.Ch

namespace Go.Proofs.Ytcmllllbmgcnlaa.Ch
open Go.RowKit Go.Proofs.Ytcmllllbmgcnlaa.C Go.Proofs.Ytcmllllbmgcnlaa.ChT Go.Proofs.YtcmllllbmgcnlaaW.PrintWords Go.Proofs.YtcmllllbmgcnlaaW.PrintLast Go.Proofs.YtcmllllbmgcnlaaW.PrintMore
set_option linter.unusedVariables false
set_option linter.unusedSimpArgs false

theorem pick_calls (A : Option Addr) (c : Nat) (os : List (List Int)) (s : Int) (w : World) (h : Kd.C (Kd.slice 3 (Kd.int .i64)) w A os.length os) (hc : os.length ≤ c) (hn : os.length ≤ 9223372036854775806) :
    Calls Try.prog 45 #[.slice A os.length c, .int .i64 s] w fun e w' => e = .returned (.tuple #[.int .i64 (pickS s 0 os).1, .bool (pickS s 0 os).2]) ∧ Drawn0 w w' := by
  obtain ⟨B, hB⟩ := len_bound os
  refine chain_Pick.calls (B + 14 + os.length) _ _ os _ _ _ w h hc ?_
  exact pick_loop s os hn B hB os [] _ rfl (by omega)

theorem rpick_calls (A : Option Addr) (c : Nat) (os : List (List Int)) (s : Int) (w : World) (h : Kd.C (Kd.slice 3 (Kd.int .i64)) w A os.length os) (hc : os.length ≤ c) (hn : os.length ≤ 9223372036854775806) (B : Nat) (hB : ∀ o ∈ os, o.length ≤ B) (hB2 : B ≤ 9223372036854775806) :
    Calls Try.prog 44 #[.slice A os.length c, .int .i64 s] w fun e w' => e = .returned (.tuple #[.int .i64 (pickS s 0 os).1, .bool (pickS s 0 os).2]) ∧ Drawn0 w w' := by
  refine vestryref06_Pick.calls (2 * B + 14 + os.length) _ _ os _ _ _ w h hc ?_
  exact rpick_loop s os hn B hB hB2 os [] _ rfl (by omega)

end Go.Proofs.Ytcmllllbmgcnlaa.Ch

namespace Go.Proofs.Ytcmllllbmgcnlaa.Ch
open Go.RowKit Go.Lib Go.Proofs.Ytcmllllbmgcnlaa.C Go.Proofs.Ytcmllllbmgcnlaa.ChT Go.Proofs.YtcmllllbmgcnlaaW.PrintWords
set_option linter.unusedVariables false
set_option linter.unusedSimpArgs false

/-- One search is within another. -/
def In (x y : Int) : Prop := Go.bits .and .i64 x y = x
/-- What chains answers for searches. -/
structure ChainsOk (l : List Int) (rows : List (List Int)) : Prop where
  least : LeastIs l rows.length
  all : ∀ x, Un l x → ∃ r ∈ rows, x ∈ r
  of : ∀ r ∈ rows, ∀ x ∈ r, Un l x
  up : ∀ r ∈ rows, r.Pairwise In
  short : ∀ r ∈ rows, r.length ≤ l.length

theorem in_bits {x y : Int} (h1 : 0 ≤ x) (h2 : x < 256) (h3 : 0 ≤ y) (h4 : y < 256) : In x y ↔ ∀ j, x.toNat.testBit j = true → y.toNat.testBit j = true := by
  unfold In
  rw [i64_and x y h1 h2 h3 h4]
  constructor
  · intro h j hj
    have e : x.toNat &&& y.toNat = x.toNat := by omega
    rw [← e, Nat.testBit_and] at hj
    simp at hj
    exact hj.2
  · intro h
    have e : x.toNat &&& y.toNat = x.toNat := by
      apply Nat.eq_of_testBit_eq
      intro j
      rw [Nat.testBit_and]
      cases hj : x.toNat.testBit j with
      | false => rfl
      | true => rw [h j hj]; rfl
    rw [e]; omega
theorem In.trans {x y z : Int} (hx : 0 ≤ x ∧ x < 256) (hy : 0 ≤ y ∧ y < 256) (hz : 0 ≤ z ∧ z < 256) (h : In x y) (k : In y z) : In x z :=
  (in_bits hx.1 hx.2 hz.1 hz.2).2 fun j hj => (in_bits hy.1 hy.2 hz.1 hz.2).1 k j ((in_bits hx.1 hx.2 hy.1 hy.2).1 h j hj)

/-! ### the rows -/
section
variable {n : Nat} {u : List Int} {tt fr : Nat → Int}
def chHeads (n : Nat) (tt : Nat → Int) : List Nat := (List.range n).filter fun i => !decide ((i : Int) ∈ (List.range n).map tt)
def chRow (u : List Int) (n : Nat) (tt : Nat → Int) (k : Int) : List Int := (rowFrom tt n k).map fun k => u[k]!
def chRows (u : List Int) (n : Nat) (tt : Nat → Int) : List (List Int) := (chHeads n tt).map fun i : Nat => chRow u n tt i

theorem head_free (hm : Mt n (Ed fun k => u[k]!) (-1) tt fr) (i : Nat) (hi : i < n) : (i : Int) ∈ (List.range n).map tt ↔ 0 ≤ fr i := by
  rw [List.mem_map]
  constructor
  · rintro ⟨s, hs, e⟩
    have := hm.tf s (List.mem_range.1 hs) i e
    omega
  · intro h
    obtain ⟨s, hs, e⟩ := (hm.rf i hi).pos h
    exact ⟨s, List.mem_range.2 hs, hm.ft i hi (by omega) s e⟩
theorem heads_eq (hm : Mt n (Ed fun k => u[k]!) (-1) tt fr) : chHeads n tt = (List.range n).filter fun k => decide (fr k < 0) := by
  unfold chHeads
  refine List.filter_congr fun i hi => ?_
  have := head_free hm i (List.mem_range.1 hi)
  by_cases h : 0 ≤ fr i
  · rw [decide_eq_true (this.2 h), decide_eq_false (by omega)]; rfl
  · rw [decide_eq_false fun hc => h (this.1 hc), decide_eq_true (by omega)]; rfl

theorem rowFrom_lt (hm : Mt n (Ed fun k => u[k]!) (-1) tt fr) : ∀ (f : Nat) (k : Int), Pl n k → ∀ j ∈ rowFrom tt f k, j < n
  | 0, _, _, j, h => by simp [rowFrom] at h
  | f + 1, k, hk, j, h => by
    unfold rowFrom at h
    by_cases h0 : k < 0
    · rw [if_pos h0] at h; simp at h
    · rw [if_neg h0] at h
      obtain ⟨q, hq, rfl⟩ := hk.pos (by omega)
      rcases List.mem_cons.1 h with rfl | h
      · simpa using hq
      · exact rowFrom_lt hm f _ (hm.rt _ (by simpa using hq)) j h
theorem rowFrom_up (hu : n = u.length) (h8 : ∀ x ∈ u, 0 ≤ x ∧ x < 256) (hm : Mt n (Ed fun k => u[k]!) (-1) tt fr) : ∀ (f : Nat) (k : Int), Pl n k → (rowFrom tt f k).Pairwise (fun a b => In u[a]! u[b]!) ∧ ∀ q : Nat, k = q → ∀ j ∈ rowFrom tt f k, j = q ∨ In u[q]! u[j]!
  | 0, _, _ => by simp [rowFrom]
  | f + 1, k, hk => by
    unfold rowFrom
    by_cases h0 : k < 0
    · rw [if_pos h0]; simp
    · rw [if_neg h0]
      obtain ⟨q, hq, rfl⟩ := hk.pos (by omega)
      rw [Int.toNat_natCast]
      have hb : ∀ j, j < n → 0 ≤ u[j]! ∧ u[j]! < 256 := fun j hj => by
        rw [getElem!_pos u j (by omega)]; exact h8 _ (List.getElem_mem _)
      obtain ⟨ih1, ih2⟩ := rowFrom_up hu h8 hm f (tt q) (hm.rt q hq)
      have hin : ∀ j ∈ rowFrom tt f (tt q), In u[q]! u[j]! := fun j hj => by
        rcases hm.rt q hq with e | ⟨p, hp, e⟩
        · rw [rowFrom_neg _ _ _ (by omega)] at hj; simp at hj
        · have hE := (hm.tf q hq p e).2.1.2
          rcases ih2 p e j hj with rfl | h
          · exact hE
          · exact In.trans (hb q hq) (hb p hp) (hb j (rowFrom_lt hm f _ (hm.rt q hq) j hj)) hE h
      refine ⟨List.pairwise_cons.2 ⟨hin, ih1⟩, fun q' e j hj => ?_⟩
      have : q' = q := by omega
      subst this
      rcases List.mem_cons.1 hj with rfl | hj
      · exact .inl rfl
      · exact .inr (hin j hj)

theorem rowFrom_len (tt : Nat → Int) : ∀ (f : Nat) (k : Int), (rowFrom tt f k).length ≤ f
  | 0, _ => Nat.le_refl _
  | f + 1, k => by
    unfold rowFrom
    by_cases h : k < 0
    · rw [if_pos h]; simp
    · rw [if_neg h]
      have := rowFrom_len tt f (tt k.toNat)
      simp only [List.length_cons]; omega
theorem chRow_len (u : List Int) (n : Nat) (tt : Nat → Int) (k : Int) : (chRow u n tt k).length ≤ n := by
  unfold chRow
  rw [List.length_map]; exact rowFrom_len tt n k

/-- The rows of what unlike keeps, joined by next, are what chains has to answer. -/
theorem chains_ok {l : List Int} (h8 : ∀ x ∈ l, 0 ≤ x ∧ x < 256) (hu : u = unS l) (hn : n = u.length) (h : NextO n (Ed fun k => u[k]!) tt fr n) :
    ChainsOk l (if (chRows u n tt).length = 0 then [[]] else chRows u n tt) := by
  have hs := unS_spec l
  have hsort := unS_sorted l
  rw [← hu] at hs hsort
  have hu8 : ∀ x ∈ u, 0 ≤ x ∧ x < 256 := fun x hx => h8 x ((hs.2.1 x).1 hx).1
  have hm := h.1
  have hup : ∀ s k, s < n → k < n → Ed (fun k => u[k]!) s k → s < k := fun s k hs hk he => edge_up hsort hu8 (by omega) (by omega) he
  obtain ⟨F, D, hf⟩ := nextO_fin h
  have hlen : (chRows u n tt).length = F.length := by
    have := hf.free_length
    unfold chRows
    rw [List.length_map, heads_eq hm]; exact this
  have hL : LeastIs l (max F.length 1) := by
    subst hn
    have := least_of hs.1 hs.2.1 hf.most
    have hd := hf.dom_length
    have e : u.length - (u.length - F.length) = F.length := by omega
    rw [e] at this; exact this
  have hall : ∀ x, Un l x → ∃ r ∈ chRows u n tt, x ∈ r := fun x hx => by
    obtain ⟨j, hj, rfl⟩ := List.getElem_of_mem ((hs.2.1 x).2 hx)
    obtain ⟨i, pre, hi, hfi, e⟩ := in_row hm hup j (by omega)
    refine ⟨_, List.mem_map.2 ⟨i, ?_, rfl⟩, ?_⟩
    · rw [heads_eq hm, List.mem_filter, List.mem_range]; exact ⟨hi, by simpa using hfi⟩
    · unfold chRow
      rw [e, rowFrom_step hm hup j (by omega)]
      rw [List.map_append, List.map_cons, getElem!_pos u j hj]
      simp
  have hof : ∀ r ∈ chRows u n tt, ∀ x ∈ r, Un l x := fun r hr x hx => by
    obtain ⟨i, hi, rfl⟩ := List.mem_map.1 hr
    obtain ⟨k, hk, rfl⟩ := List.mem_map.1 hx
    have hin : i < n := by have := (List.mem_filter.1 hi).1; simpa using this
    have := rowFrom_lt hm n i (.inr ⟨i, hin, rfl⟩) k hk
    rw [getElem!_pos u k (by omega)]
    exact (hs.2.1 _).1 (List.getElem_mem _)
  have hupw : ∀ r ∈ chRows u n tt, r.Pairwise In := fun r hr => by
    obtain ⟨i, hi, rfl⟩ := List.mem_map.1 hr
    have hin : i < n := by have := (List.mem_filter.1 hi).1; simpa using this
    unfold chRow
    rw [List.pairwise_map]
    exact (rowFrom_up hn hu8 hm n i (.inr ⟨i, hin, rfl⟩)).1
  have hsh : ∀ r ∈ chRows u n tt, r.length ≤ l.length := fun r hr => by
    obtain ⟨i, hi, rfl⟩ := List.mem_map.1 hr
    have := chRow_len u n tt i
    have := hs.2.2
    omega
  by_cases h0 : (chRows u n tt).length = 0
  · rw [if_pos h0]
    have e : chRows u n tt = [] := List.length_eq_zero_iff.1 h0
    rw [hlen] at h0
    rw [e] at hall
    refine ⟨by rw [h0] at hL; exact hL, fun x hx => ?_, fun r hr x hx => ?_, fun r hr => ?_, fun r hr => by rw [List.mem_singleton] at hr; subst hr; simp⟩
    · obtain ⟨r, hr, _⟩ := hall x hx; simp at hr
    · rw [List.mem_singleton] at hr; subst hr; simp at hx
    · rw [List.mem_singleton] at hr; subst hr; simp
  · rw [if_neg h0]
    refine ⟨?_, hall, hof, hupw, hsh⟩
    rw [hlen] at h0 ⊢
    rwa [show max F.length 1 = F.length by omega] at hL
end

/-! ### an order out of a row -/
/-- The first c columns: those of s that are not there come behind. -/
def addC (s : Int) (o : List Int) : Nat → List Int
  | 0 => o
  | c + 1 => if Go.bits .and .i64 (shr .i64 s (c : Int)) 1 = 1 ∧ (c : Int) ∉ addC s o c then addC s o c ++ [(c : Int)] else addC s o c
def ordF (w : Nat) (o : List Int) (row : List Int) : List Int := row.foldl (fun o s => addC s o w) o
/-- The order that serves a row. -/
def ordOf (w : Nat) (row : List Int) : List Int := ordF w [] (row ++ [2 ^ w - 1])

/-- o has just the columns of m. -/
structure Has (w m : Nat) (o : List Int) : Prop where
  nodup : o.Nodup
  mem : ∀ x, x ∈ o ↔ 0 ≤ x ∧ x < (w : Int) ∧ m.testBit x.toNat = true

theorem addC_spec {w m m0 : Nat} {o : List Int} (hw : w ≤ 8) (hm : m < 256) (h : Has w m0 o) (hs : ∀ j, m0.testBit j = true → m.testBit j = true) : ∀ c, c ≤ w →
    (addC (m : Int) o c).Nodup ∧ (∃ q, addC (m : Int) o c = o ++ q) ∧ ∀ x, x ∈ addC (m : Int) o c ↔ x ∈ o ∨ (0 ≤ x ∧ x < (c : Int) ∧ m.testBit x.toNat = true)
  | 0, _ => ⟨h.nodup, ⟨[], by simp [addC]⟩, fun x => by simp only [addC]; constructor; exact .inl; rintro (h | h); exact h; omega⟩
  | c + 1, hc => by
    obtain ⟨h1, ⟨q, h2⟩, h3⟩ := addC_spec hw hm h hs c (by omega)
    unfold addC
    have hbt := bit_test m hm c (by omega)
    by_cases hx : m.testBit c = true ∧ (c : Int) ∉ addC (m : Int) o c
    · rw [if_pos ⟨hbt.2 hx.1, hx.2⟩]
      refine ⟨?_, ⟨q ++ [(c : Int)], by rw [h2, List.append_assoc]⟩, fun x => ?_⟩
      · rw [List.nodup_append]
        exact ⟨h1, by simp, fun a ha b hb e => by rw [List.mem_singleton] at hb; subst hb; subst e; exact hx.2 ha⟩
      · rw [List.mem_append, h3, List.mem_singleton]
        constructor
        · rintro ((h | ⟨h4, h5, h6⟩) | rfl)
          · exact .inl h
          · exact .inr ⟨h4, by omega, h6⟩
          · exact .inr ⟨by omega, by omega, by simpa using hx.1⟩
        · rintro (h | ⟨h4, h5, h6⟩)
          · exact .inl (.inl h)
          · by_cases e : x = (c : Int)
            · exact .inr e
            · exact .inl (.inr ⟨h4, by omega, h6⟩)
    · rw [if_neg fun hc' => hx ⟨hbt.1 hc'.1, hc'.2⟩]
      refine ⟨h1, ⟨q, h2⟩, fun x => ?_⟩
      rw [h3]
      constructor
      · rintro (h | ⟨h4, h5, h6⟩)
        · exact .inl h
        · exact .inr ⟨h4, by omega, h6⟩
      · rintro (h | ⟨h4, h5, h6⟩)
        · exact .inl h
        · by_cases e : x = (c : Int)
          · subst e
            have hn : (c : Int) ∈ addC (m : Int) o c := Classical.byContradiction fun hc' => hx ⟨by simpa using h6, hc'⟩
            exact (h3 _).1 hn
          · exact .inr ⟨h4, by omega, h6⟩

theorem addC_has {w m m0 : Nat} {o : List Int} (hw : w ≤ 8) (hm : m < 256) (h : Has w m0 o) (hs : ∀ j, m0.testBit j = true → m.testBit j = true) : Has w m (addC (m : Int) o w) ∧ ∃ q, addC (m : Int) o w = o ++ q := by
  obtain ⟨h1, h2, h3⟩ := addC_spec hw hm h hs w (Nat.le_refl _)
  refine ⟨⟨h1, fun x => ?_⟩, h2⟩
  rw [h3]
  constructor
  · rintro (h4 | h4)
    · obtain ⟨a, b, c⟩ := (h.mem x).1 h4
      exact ⟨a, b, hs _ c⟩
    · exact h4
  · exact .inr

/-- Along a row: each search's columns are a beginning of the order. -/
theorem ordF_row {w : Nat} (hw : w ≤ 8) : ∀ (row : List Int) (m0 : Nat) (o : List Int), m0 < 256 → (∀ x ∈ row, 0 ≤ x ∧ x < 256) → ((m0 : Int) :: row).Pairwise In → Has w m0 o →
    (∃ q, ordF w o row = o ++ q) ∧ (∀ s ∈ row, ∃ p q, ordF w o row = p ++ q ∧ Has w s.toNat p) ∧ ∃ m : Nat, m < 256 ∧ Has w m (ordF w o row) ∧ ((m : Int) = m0 ∨ (m : Int) ∈ row)
  | [], m0, o, h0, _, _, h => ⟨⟨[], by simp [ordF]⟩, by simp, m0, h0, h, .inl rfl⟩
  | s :: row, m0, o, h0, h8, hp, h => by
    have hs8 := h8 s (by simp)
    obtain ⟨hp1, hp2⟩ := List.pairwise_cons.1 hp
    have hin := hp1 s (by simp)
    obtain ⟨m, rfl⟩ := Int.eq_ofNat_of_zero_le hs8.1
    have hsub := (in_bits (Int.natCast_nonneg m0) (by omega) hs8.1 hs8.2).1 hin
    simp only [Int.toNat_natCast] at hsub
    obtain ⟨a1, q0, a2⟩ := addC_has hw (by omega) h hsub
    obtain ⟨⟨q, b1⟩, b2, m', b3, b4, b5⟩ := ordF_row hw row m (addC (m : Int) o w) (by omega) (fun x hx => h8 x (by simp [hx])) hp2 a1
    have e : ordF w o ((m : Int) :: row) = ordF w (addC (m : Int) o w) row := rfl
    refine ⟨⟨q0 ++ q, by rw [e, b1, a2, List.append_assoc]⟩, fun s hs => ?_, m', b3, by rw [e]; exact b4, .inr ?_⟩
    · rcases List.mem_cons.1 hs with rfl | hs
      · exact ⟨_, q, by rw [e]; exact b1, by simpa using a1⟩
      · rw [e]; exact b2 s hs
    · rcases b5 with h | h
      · rw [h]; simp
      · simp [h]

theorem orL_bits : ∀ (o : List Int) (m j : Nat), (∀ c ∈ o, 0 ≤ c) → ((orL o m).testBit j = true ↔ m.testBit j = true ∨ (j : Int) ∈ o)
  | [], m, j, _ => by simp [orL]
  | c :: o, m, j, h => by
    rw [orL, orL_bits o _ j (fun x hx => h x (by simp [hx])), test_set, List.mem_cons]
    have := h c (by simp)
    constructor
    · rintro ((h | h) | h)
      · exact .inl h
      · exact .inr (.inl (by omega))
      · exact .inr (.inr h)
    · rintro (h | h | h)
      · exact .inl (.inl h)
      · exact .inl (.inr (by omega))
      · exact .inr h

theorem testBit_lt {m w j : Nat} (hm : m < 2 ^ w) (h : m.testBit j = true) : j < w := by
  refine Classical.byContradiction fun hc => ?_
  have : m < 2 ^ j := Nat.lt_of_lt_of_le hm (Nat.pow_le_pow_right (by decide) (by omega))
  rw [Nat.testBit_lt_two_pow this] at h
  cases h

theorem has_orL {w m : Nat} {p : List Int} (hw : w ≤ 8) (hm : m < 2 ^ w) (h : Has w m p) : orL p 0 = m ∧ popN m = p.length := by
  have h256 : m < 256 := Nat.lt_of_lt_of_le hm (Nat.pow_le_pow_right (n := 2) (i := w) (j := 8) (by decide) hw)
  have h0 : ∀ c ∈ p, 0 ≤ c := fun c hc => ((h.mem c).1 hc).1
  have e : orL p 0 = m := by
    apply Nat.eq_of_testBit_eq
    intro j
    have := orL_bits p 0 j h0
    cases hj : m.testBit j with
    | true => rw [this, h.mem]; exact .inr ⟨by omega, by have := testBit_lt hm hj; omega, by simpa using hj⟩
    | false =>
      cases hq : (orL p 0).testBit j with
      | false => rfl
      | true =>
        rcases this.1 hq with h1 | h1
        · simp at h1
        · have := ((h.mem _).1 h1).2.2
          simp [hj] at this
  refine ⟨e, ?_⟩
  have := pop_orL p (fun c hc => by obtain ⟨a, b, _⟩ := (h.mem c).1 hc; omega) h.nodup 0 (by decide) (fun c _ => by simp)
  rw [e] at this
  rw [this]
  have : popN 0 = 0 := by decide
  omega

theorem has_zero (w : Nat) : Has w 0 [] := ⟨List.nodup_nil, fun x => by simp⟩
theorem has_full {w : Nat} {o : List Int} (hw : w ≤ 8) (h : Has w (2 ^ w - 1) o) : o.length = w ∧ Rt o := by
  have hb : ∀ j, (2 ^ w - 1).testBit j = decide (j < w) := fun j => Nat.testBit_two_pow_sub_one w j
  have hmem : ∀ x, x ∈ o ↔ 0 ≤ x ∧ x < (w : Int) := fun x => by
    rw [h.mem, hb]
    constructor
    · rintro ⟨a, b, _⟩; exact ⟨a, b⟩
    · rintro ⟨a, b⟩; exact ⟨a, b, by simp; omega⟩
  have e : o.length = w := by
    have := eq_of_nodup h.nodup (upto_nodup w) fun x => (hmem x).trans mem_upto.symm
    rw [this, upto_len]
  exact ⟨e, by omega, fun c hc => by rw [e]; exact (hmem c).1 hc, h.nodup⟩

/-- The order of a row is right, has each column, and serves each search of the row, and the empty one. -/
theorem ordOf_spec {w : Nat} (hw : w ≤ 8) {row : List Int} (h8 : ∀ x ∈ row, 0 ≤ x ∧ x < 2 ^ w) (hp : row.Pairwise In) :
    (ordOf w row).length = w ∧ Rt (ordOf w row) ∧ ∀ s, s = 0 ∨ s ∈ row → (coverS (ordOf w row) s).2 = true := by
  have hpw : (2 : Int) ^ w ≤ 256 := pow_le_8 w hw
  have hpp : (0 : Int) < 2 ^ w := Int.pow_pos (by decide)
  have hcast : ((2 ^ w - 1 : Nat) : Int) = 2 ^ w - 1 := by
    have h1 : 1 ≤ (2 : Nat) ^ w := Nat.one_le_two_pow
    have h2 : ((2 ^ w : Nat) : Int) = (2 : Int) ^ w := by simp
    omega
  have hN : ∀ s : Int, 0 ≤ s → s < 2 ^ w → s.toNat < 2 ^ w := fun s h1 h2 => by
    have h3 : ((2 ^ w : Nat) : Int) = (2 : Int) ^ w := by simp
    omega
  have h82 : ∀ x ∈ row ++ [(2 : Int) ^ w - 1], 0 ≤ x ∧ x < 256 := fun x hx => by
    rcases List.mem_append.1 hx with hx | hx
    · have := h8 x hx; omega
    · rw [List.mem_singleton] at hx; omega
  have hp2 : (((0 : Nat) : Int) :: (row ++ [(2 : Int) ^ w - 1])).Pairwise In := by
    rw [List.pairwise_cons, List.pairwise_append]
    refine ⟨fun x hx => ?_, hp, by simp, fun a ha b hb => ?_⟩
    · have := h82 x hx
      exact (in_bits (by omega) (by omega) this.1 this.2).2 fun j hj => by simp at hj
    · rw [List.mem_singleton] at hb
      have h1 := h8 a ha
      have h2 := h82 b (by simp [hb])
      refine (in_bits h1.1 (by omega) h2.1 h2.2).2 fun j hj => ?_
      have h3 : b.toNat = 2 ^ w - 1 := by omega
      rw [h3, Nat.testBit_two_pow_sub_one]
      simpa using testBit_lt (hN a h1.1 h1.2) hj
  obtain ⟨_, h1, _⟩ := ordF_row hw (row ++ [(2 : Int) ^ w - 1]) 0 [] (by decide) h82 hp2 (has_zero w)
  have hfull : Has w (2 ^ w - 1) (ordOf w row) := by
    have : ordF w [] (row ++ [(2 : Int) ^ w - 1]) = addC (2 ^ w - 1) (ordF w [] row) w := by simp [ordF]
    have hp3 : (((0 : Nat) : Int) :: row).Pairwise In := by
      rw [← List.cons_append] at hp2
      exact (List.pairwise_append.1 hp2).1
    obtain ⟨_, _, m, hm, hH, hmr⟩ := ordF_row hw row 0 [] (by decide) (fun x hx => h82 x (by simp [hx])) hp3 (has_zero w)
    have hmlt : m < 2 ^ w := by
      rcases hmr with h | h
      · have : m = 0 := by omega
        subst this; exact Nat.pow_pos (by decide)
      · have := h8 _ h
        have := hN m this.1 this.2
        simpa using this
    have h3 := (addC_has (m := 2 ^ w - 1) hw (by have : (2 : Nat) ^ w ≤ 256 := Nat.pow_le_pow_right (n := 2) (i := w) (j := 8) (by decide) hw; omega) hH (fun j hj => by
      rw [Nat.testBit_two_pow_sub_one]; simpa using testBit_lt hmlt hj)).1
    rw [hcast] at h3
    unfold ordOf
    rw [this]; exact h3
  obtain ⟨f1, f2⟩ := has_full hw hfull
  refine ⟨f1, f2, fun s hs => ?_⟩
  have hpre : ∃ p q, ordOf w row = p ++ q ∧ Has w s.toNat p ∧ 0 ≤ s ∧ s < 2 ^ w := by
    rcases hs with rfl | hs
    · exact ⟨[], _, rfl, has_zero w, Int.le_refl _, hpp⟩
    · obtain ⟨p, q, e, hH⟩ := h1 s (List.mem_append_left _ hs)
      exact ⟨p, q, e, hH, h8 s hs⟩
  obtain ⟨p, q, e, hH, h0, hlt⟩ := hpre
  obtain ⟨a, b⟩ := has_orL hw (hN s h0 hlt) hH
  unfold coverS
  rw [if_pos ⟨f2, h0, by rw [f1]; exact hlt⟩, e, b]
  have : List.take p.length (p ++ q) = p := by simp
  rw [this, a, if_pos rfl]

theorem pickS_some {s : Int} : ∀ (os : List (List Int)) (i : Nat), (∃ o ∈ os, (coverS o s).2 = true) → (pickS s i os).2 = true
  | [], _, h => by obtain ⟨o, h, _⟩ := h; simp at h
  | o :: os, i, h => by
    unfold pickS
    by_cases hc : (coverS o s).2 = true
    · rw [if_pos hc]
    · rw [if_neg hc]
      refine pickS_some os (i + 1) ?_
      obtain ⟨p, hp, h⟩ := h
      rcases List.mem_cons.1 hp with rfl | hp
      · exact absurd h hc
      · exact ⟨p, hp, h⟩

/-- What Orders answers for searches that are right. -/
theorem orders_serve {w : Nat} (hw : w ≤ 8) {l : List Int} {rows : List (List Int)} (h8 : ∀ x ∈ l, 0 ≤ x ∧ x < 2 ^ w) (h : ChainsOk l rows) :
    LeastIs l (rows.map (ordOf w)).length ∧ (∀ o ∈ rows.map (ordOf w), o.length = w ∧ Rt o) ∧ ∀ s ∈ l, (pickS s 0 (rows.map (ordOf w))).2 = true := by
  have hr : ∀ r ∈ rows, ∀ x ∈ r, 0 ≤ x ∧ x < 2 ^ w := fun r hr x hx => h8 x (h.of r hr x hx).1
  refine ⟨by rw [List.length_map]; exact h.least, fun o ho => ?_, fun s hs => pickS_some _ _ ?_⟩
  · obtain ⟨r, hr', rfl⟩ := List.mem_map.1 ho
    have := ordOf_spec hw (hr r hr') (h.up r hr')
    exact ⟨this.1, this.2.1⟩
  · by_cases h0 : s = 0
    · have hne : rows ≠ [] := fun e => by
        subst e
        obtain ⟨_, _, _, _, _, h1⟩ := h.least
        simp at h1; omega
      obtain ⟨r, hr'⟩ := List.exists_mem_of_ne_nil _ hne
      exact ⟨_, List.mem_map.2 ⟨r, hr', rfl⟩, (ordOf_spec hw (hr r hr') (h.up r hr')).2.2 s (.inl h0)⟩
    · obtain ⟨r, hr', hx⟩ := h.all s ⟨hs, h0⟩
      exact ⟨_, List.mem_map.2 ⟨r, hr', rfl⟩, (ordOf_spec hw (hr r hr') (h.up r hr')).2.2 s (.inr hx)⟩

end Go.Proofs.Ytcmllllbmgcnlaa.Ch

namespace Go.Proofs.Ytcmllllbmgcnlaa.Ch
open Go.RowKit Go.Lib Go.Proofs.Ytcmllllbmgcnlaa.C Go.Proofs.Ytcmllllbmgcnlaa.ChT Go.Proofs.YtcmllllbmgcnlaaW.PrintWords
set_option linter.unusedVariables false
set_option linter.unusedSimpArgs false

theorem Most.congr {α : Type} {R S : α → α → Prop} {m : Nat} (e : ∀ x y, R x y ↔ S x y) (h : Most R m) : Most S m := by
  have : R = S := by funext x y; exact propext (e x y)
  rwa [← this]
theorem bad_snoc {l : List Int} {one w : Int} : Bad w (l ++ [one]) ↔ Bad w l ∨ (one < 0 ∨ shr .i64 one w ≠ 0) := by
  unfold Bad
  constructor
  · rintro ⟨s, hs, h⟩
    rcases List.mem_append.1 hs with hs | hs
    · exact .inl ⟨s, hs, h⟩
    · rw [List.mem_singleton] at hs; subst hs; exact .inr h
  · rintro (⟨s, hs, h⟩ | h)
    · exact ⟨s, List.mem_append_left _ hs, h⟩
    · exact ⟨one, by simp, h⟩
/-- With one more it is no less wrong. -/
theorem wrong_snoc {l : List Int} {one w : Int} (h : wrongS w (l ++ [one]) = 0) : wrongS w l = 0 := by
  unfold wrongS at h ⊢
  by_cases h1 : 256 < (l ++ [one]).length
  · rw [if_pos h1] at h; cases h
  · rw [if_neg h1] at h
    by_cases h2 : Bad w (l ++ [one])
    · rw [if_pos h2] at h; cases h
    · rw [if_neg (by simp at h1; omega), if_neg fun hc => h2 (bad_snoc.2 (.inl hc))]
/-- What is not wrong. -/
theorem ok_wrong {l : List Int} (h : wrongS 8 l = 0) : l.length ≤ 256 ∧ ∀ x ∈ l, 0 ≤ x ∧ x < 256 := by
  unfold wrongS at h
  by_cases h1 : 256 < l.length
  · rw [if_pos h1] at h; cases h
  · rw [if_neg h1] at h
    by_cases h2 : Bad 8 l
    · rw [if_pos h2] at h; cases h
    · refine ⟨by omega, fun x hx => ?_⟩
      have : ¬ (x < 0 ∨ shr .i64 x 8 ≠ 0) := fun hc => h2 ⟨x, hx, hc⟩
      rw [shr8] at this
      omega

theorem least_pos {l : List Int} {n : Nat} (h : LeastIs l n) : 1 ≤ n := by
  obtain ⟨_, _, _, _, _, h⟩ := h; omega

theorem nodup_exists (l : List Int) : ∃ u : List Int, u.Nodup ∧ ∀ x, x ∈ u ↔ Un l x := ⟨unS l, (unS_spec l).1, (unS_spec l).2.1⟩

/-- One search more needs as many, or one more. -/
theorem least_more {l : List Int} {one : Int} {n m : Nat} (h8 : ∀ x ∈ l ++ [one], 0 ≤ x ∧ x < 256) (h : LeastIs l n) (g : LeastIs (l ++ [one]) m) : m = n ∨ m = n + 1 := by
  obtain ⟨u, p, hu, hum, hp, rfl⟩ := h
  obtain ⟨v, q, hv, hvm, hq, rfl⟩ := g
  by_cases h0 : one = 0 ∨ one ∈ l
  · have hun : ∀ x, Un (l ++ [one]) x ↔ Un l x := fun x => by
      unfold Un
      rw [List.mem_append, List.mem_singleton]
      constructor
      · rintro ⟨h1 | h1, h2⟩
        · exact ⟨h1, h2⟩
        · subst h1
          rcases h0 with h0 | h0
          · exact absurd h0 h2
          · exact ⟨h0, h2⟩
      · rintro ⟨h1, h2⟩; exact ⟨.inl h1, h2⟩
    have e1 : v.length = u.length := eq_of_nodup hv hu fun x => (hvm x).trans ((hun x).trans (hum x).symm)
    have e2 : q = p := by
      refine hq.eq (hp.congr fun x y => ?_)
      unfold Rl
      rw [hun, hun]
    exact .inl (by rw [e1, e2])
  · have h1 : one ≠ 0 := fun e => h0 (.inl e)
    have h2 : one ∉ l := fun e => h0 (.inr e)
    have hun : ∀ x, Un (l ++ [one]) x ↔ Un l x ∨ x = one := fun x => by
      unfold Un
      rw [List.mem_append, List.mem_singleton]
      constructor
      · rintro ⟨h3 | h3, h4⟩
        · exact .inl ⟨h3, h4⟩
        · exact .inr h3
      · rintro (⟨h3, h4⟩ | h3)
        · exact ⟨.inl h3, h4⟩
        · subst h3; exact ⟨.inr rfl, h1⟩
    have e1 : v.length = u.length + 1 := by
      have hn : (one :: u).Nodup := List.nodup_cons.2 ⟨fun hc => h2 ((hum _).1 hc).1, hu⟩
      have := eq_of_nodup hv hn fun x => by
        rw [hvm, hun, List.mem_cons, hum]; exact ⟨fun h => h.symm, fun h => h.symm⟩
      simpa using this
    have h9 : ∀ x, Un (l ++ [one]) x → 0 ≤ x ∧ x < 256 := fun x hx => h8 x hx.1
    have hle := most_one_more (α := Int) (R := fun x y => (0 ≤ x ∧ x < 256) ∧ (0 ≤ y ∧ y < 256) ∧ y ≠ x ∧ In x y) (A := Un l) (B := Un (l ++ [one])) (x := one)
      (by
        rintro x y z ⟨hx, hy, hne, hi⟩ ⟨_, hz, hne2, hi2⟩
        refine ⟨hx, hz, fun e => ?_, hi.trans hx hy hz hi2⟩
        subst e
        have a := and_le hx.1 hx.2 hy.1 hy.2 hi
        have b := and_le hy.1 hy.2 hx.1 hx.2 hi2
        omega) hun (by rintro ⟨_, _, h, _⟩; exact h rfl) (m := p) (k := q)
      (hp.congr fun x y => ⟨fun ⟨a, b, c⟩ => ⟨a, b, h9 x ((hun x).2 (.inl a)), h9 y ((hun y).2 (.inl b)), c⟩, fun ⟨a, b, _, _, c⟩ => ⟨a, b, c⟩⟩)
      (hq.congr fun x y => ⟨fun ⟨a, b, c⟩ => ⟨a, b, h9 x a, h9 y b, c⟩, fun ⟨a, b, _, _, c⟩ => ⟨a, b, c⟩⟩)
    rw [e1]
    omega

/-- Searches of which none is within another. -/
theorem least_apart {l : List Int} (hn : l.Nodup) (h0 : ∀ x ∈ l, x ≠ 0) (h : ∀ x ∈ l, ∀ y ∈ l, x ≠ y → ¬ In x y) (hp : 1 ≤ l.length) : LeastIs l l.length := by
  refine ⟨l, 0, hn, fun x => ⟨fun hx => ⟨hx, h0 x hx⟩, fun hx => hx.1⟩, ⟨⟨[], ⟨by simp, by simp, by simp⟩, rfl⟩, fun M hM => ?_⟩, by omega⟩
  rcases M with _ | ⟨p, M⟩
  · exact Nat.le_refl _
  · obtain ⟨a, b, c, d⟩ := hM.rel p (by simp)
    exact absurd d (h _ a.1 _ b.1 (fun e => c e.symm))

/-- The last of growing ones begins no pair; the others do. -/
theorem most_row : ∀ (u : List Int), u.Pairwise (fun x y => y ≠ x ∧ In x y) → (∀ x ∈ u, 0 ≤ x ∧ x < 256) → Most (fun x y => x ∈ u ∧ y ∈ u ∧ (y ≠ x ∧ In x y)) (u.length - 1) := by
  intro u hu h8
  have hnd : u.Nodup := hu.imp fun h => fun e => h.1 e.symm
  constructor
  · refine ⟨u.dropLast.zip u.tail, ⟨?_, ?_, ?_⟩, by simp⟩
    · rintro ⟨x, y⟩ hp
      obtain ⟨i, hi, e⟩ := List.getElem_of_mem hp
      have hi' : i < u.length - 1 := by simp at hi; omega
      rw [List.getElem_zip] at e
      injection e with e1 e2
      rw [List.getElem_dropLast] at e1
      have := List.pairwise_iff_getElem.1 hu i (i + 1) (by omega) (by omega) (by omega)
      rw [e1] at this
      rw [List.getElem_tail] at e2
      rw [e2] at this
      exact ⟨by rw [← e1]; exact List.getElem_mem _, by rw [← e2]; exact List.getElem_mem _, this⟩
    · rw [List.map_fst_zip (by simp)]
      exact List.Nodup.sublist (List.dropLast_sublist _) hnd
    · rw [List.map_snd_zip (by simp)]
      exact List.Nodup.sublist (List.tail_sublist _) hnd
  · intro M hM
    rcases List.eq_nil_or_concat u with rfl | ⟨p, z, e⟩
    · rcases M with _ | ⟨m, M⟩
      · exact Nat.le_refl _
      · have := (hM.rel m (by simp)).1; simp at this
    · rw [List.concat_eq_append] at e
      subst e
      have := le_of_nodup hM.fst (b := p) fun x hx => by
        obtain ⟨m, hm, rfl⟩ := List.mem_map.1 hx
        obtain ⟨a, b, c, d⟩ := hM.rel m hm
        rcases List.mem_append.1 a with a | a
        · exact a
        · rw [List.mem_singleton] at a
          have hz := h8 z (by simp)
          have hb := h8 _ b
          rw [a] at c d
          rcases List.mem_append.1 b with b | b
          · have h1 := (List.pairwise_append.1 hu).2.2 _ b z (by simp)
            have a1 := and_le hz.1 hz.2 hb.1 hb.2 d
            have a2 := and_le hb.1 hb.2 hz.1 hz.2 h1.2
            omega
          · rw [List.mem_singleton] at b; exact absurd b c
      simpa using this

theorem sorted_nodup_row {l : List Int} (h8 : ∀ x ∈ l, 0 ≤ x ∧ x < 256) (h : ∀ x ∈ l, ∀ y ∈ l, In x y ∨ In y x) : LeastIs l 1 := by
  have hs := unS_spec l
  have hsort := unS_sorted l
  have hu8 : ∀ x ∈ unS l, 0 ≤ x ∧ x < 256 := fun x hx => h8 x ((hs.2.1 x).1 hx).1
  have hp : (unS l).Pairwise (fun x y => y ≠ x ∧ In x y) := by
    refine hsort.imp_of_mem fun {a b} ha hb hlt => ⟨by omega, ?_⟩
    rcases h a ((hs.2.1 a).1 ha).1 b ((hs.2.1 b).1 hb).1 with h1 | h1
    · exact h1
    · have a1 := hu8 a ha
      have a2 := hu8 b hb
      have := and_le a2.1 a2.2 a1.1 a1.2 h1
      omega
  refine ⟨unS l, _, hs.1, hs.2.1, (most_row _ hp hu8).congr fun x y => ?_, by omega⟩
  unfold Rl
  rw [← hs.2.1, ← hs.2.1]; rfl

end Go.Proofs.Ytcmllllbmgcnlaa.Ch

namespace Go.Proofs.Ytcmllllbmgcnlaa.Ch
open Go.RowKit Go.Deep Go.Proofs.Ytcmllllbmgcnlaa.C Go.Proofs.Ytcmllllbmgcnlaa.ChT Go.Proofs.YtcmllllbmgcnlaaW.PrintWords Go.Proofs.YtcmllllbmgcnlaaW.PrintLast Go.Proofs.YtcmllllbmgcnlaaW.PrintMore
set_option linter.unusedVariables false
set_option linter.unusedSimpArgs false

theorem sl_rowIs {w : World} {b n : Nat} {tt : Nat → Int} (h : w.rowIs b 3 n (fun k => .int .i64 (tt k))) (hn : n ≤ 4096) : Sl w (some ⟨b, 0, none⟩) n ((List.range n).map tt) := by
  refine ⟨?_, by simp⟩
  rw [List.length_map, List.length_range]
  refine Kd.C_of_reads (d := (0 : Int)) (h1 := fun _ => rfl) ⟨by simp, by omega, fun hp => ⟨_, rfl, fun j hj => ?_⟩⟩
  have := h.cell hj
  rw [add_plain, this]
  simp [List.getD_eq_getElem?_getD, hj]

theorem ow_R {w : World} {base : Nat} {v : Value} {zs : List Int} (h : Ow w base v zs) : Kd.R (Kd.int .i64) 3 w base (fun _ => True) v zs := Kd.R_of_own (h1 := fun _ => rfl) h fun _ _ => trivial
theorem ow_slice {w : World} {base : Nat} {v : Value} {zs : List Int} (h : Ow w base v zs) : ∃ A c, v = .slice A zs.length c ∧ Sl w A c zs := R_sl (ow_R h)
theorem ow_cells {w : World} {base : Nat} {v : Value} {zs : List Int} (h : Ow w base v zs) : ∃ A c ba, v = .slice A zs.length c ∧ (0 < zs.length → ba < w.heap.size) ∧ ∀ k, k < zs.length → A = some ⟨ba, 0, none⟩ ∧ w.cell? ⟨ba, 0 + k, none⟩ = some (.int .i64 zs[k]!) := by
  obtain ⟨A, c, ba, e, _, _, h1, h2⟩ := r_cells (ow_R h)
  exact ⟨A, c, ba, e, h1, h2⟩

/-- Rows of the call's own, each in a block of its own. -/
structure Rw (w : World) (base : Nat) (v : Value) (rvs : List Value) (rows : List (List Int)) : Prop where
  own : w.ownsRow base 22 1 v rvs.length rvs
  len : rvs.length = rows.length
  els : ∀ j (h1 : j < rvs.length) (h2 : j < rows.length), Ow w base rvs[j] rows[j]
  apart : rvs.Pairwise NeRow

section
variable {w w1 : World} {base : Nat} {v v1 u : Value} {rvs : List Value} {rows : List (List Int)} {r : List Int}
theorem Rw.mem (h : Rw w base v rvs rows) : ∀ x ∈ rvs, ∃ r, Ow w base x r := fun x hx => by
  obtain ⟨j, hj, rfl⟩ := List.getElem_of_mem hx
  exact ⟨_, h.els j hj (by rw [← h.len]; exact hj)⟩
theorem Rw.below (h : Rw w base v rvs rows) (hb : Below w.heap.size w w1) : Rw w1 base v rvs rows :=
  ⟨pw_own_below h.own hb, h.len, fun j h1 h2 => pw_own_below (h.els j h1 h2) hb, h.apart⟩
theorem Rw.grown (h : Rw w base v rvs rows) {row : Option Nat} (hg : w.grownBy w1 row) (hne : v.ownBlock = none ∨ v.ownBlock ≠ row) (hes : ∀ x ∈ rvs, x.ownBlock = none ∨ x.ownBlock ≠ row) : Rw w1 base v rvs rows :=
  ⟨own_other h.own hg hne, h.len, fun j h1 h2 => own_other (h.els j h1 h2) hg (hes _ (List.getElem_mem _)), h.apart⟩
theorem Rw.nil (w : World) (base : Nat) : Rw w base (.slice none 0 0) [] [] := ⟨own_nil _ _ _ _, rfl, fun j h1 _ => absurd h1 (by simp), .nil⟩
theorem Rw.snoc (h : Rw w base v rvs rows) (hu : Ow w base u r) (hne : ∀ x ∈ rvs, NeRow u x) (ho : w1.ownsRow base 22 1 v1 (rvs ++ [u]).length (rvs ++ [u])) (hg : w.grownBy w1 v.ownBlock) : Rw w1 base v1 (rvs ++ [u]) (rows ++ [r]) := by
  have ht : ∀ {x : Value} {q : List Int}, Ow w base x q → Ow w1 base x q := fun hx => own_other hx hg (own_type_ne hx h.own (by decide))
  refine ⟨ho, by simp [h.len], fun j h1 h2 => ?_, ?_⟩
  · by_cases hj : j < rvs.length
    · rw [List.getElem_append_left hj, List.getElem_append_left (by rw [← h.len]; exact hj)]
      exact ht (h.els j hj _)
    · have e : j = rvs.length := by simp at h1; omega
      subst e
      rw [List.getElem_append_right (by omega), List.getElem_append_right (by rw [h.len]; exact Nat.le_refl _)]
      simpa using ht hu
  · rw [List.pairwise_append]
    exact ⟨h.apart, by simp, fun a ha b hb => by rw [List.mem_singleton] at hb; subst hb; exact ne_symm (hne a ha)⟩

/-- .. and one row beside them that grows. -/
structure Rg (w : World) (base : Nat) (v : Value) (rvs : List Value) (rows : List (List Int)) (u : Value) (r : List Int) : Prop where
  rw_ : Rw w base v rvs rows
  ow : Ow w base u r
  ne : ∀ x ∈ rvs, NeRow u x
theorem Rg.below (h : Rg w base v rvs rows u r) (hb : Below w.heap.size w w1) : Rg w1 base v rvs rows u r := ⟨h.rw_.below hb, pw_own_below h.ow hb, h.ne⟩
theorem Rg.start (h : Rw w base v rvs rows) : Rg w base v rvs rows (.slice none 0 0) [] := ⟨h, own_nil _ _ _ _, fun x _ => ne_nil x⟩
theorem Rg.more (h : Rg w base v rvs rows u r) {u1 : Value} {x : Int} (ho : w1.ownsRow base 3 1 u1 (r.map (Value.int .i64) ++ [Value.int .i64 x]).length (r.map (Value.int .i64) ++ [Value.int .i64 x])) (hg : w.grownBy w1 u.ownBlock) (hat : u1.ownBlock = u.ownBlock ∨ ∃ b, u1.ownBlock = some b ∧ w.heap.size ≤ b) : Rg w1 base v rvs rows u1 (r ++ [x]) := by
  refine ⟨h.rw_.grown hg (own_type_ne h.rw_.own h.ow (by decide)) (fun x hx => ne_other (h.ne x hx)), ?_, fun x hx => ?_⟩
  · unfold Ow; simpa using ho
  · obtain ⟨q, hq⟩ := h.rw_.mem x hx
    exact ne_append (h.ne x hx) hat hq
theorem Rg.snoc (h : Rg w base v rvs rows u r) (ho : w1.ownsRow base 22 1 v1 (rvs ++ [u]).length (rvs ++ [u])) (hg : w.grownBy w1 v.ownBlock) : Rw w1 base v1 (rvs ++ [u]) (rows ++ [r]) := h.rw_.snoc h.ow h.ne ho hg
end

theorem infoRow : (Try.prog.info? 22).map (fun i => (i.zero, i.size, i.bytes)) = some (some (.slice none 0 0), 1, 24) := by kernel_rfl

/-- The rows of the first i places. -/
def chRowsTo (u : List Int) (n : Nat) (tt : Nat → Int) (i : Nat) : List (List Int) := ((List.range i).filter fun i : Nat => !decide ((i : Int) ∈ (List.range n).map tt)).map fun i : Nat => chRow u n tt i
theorem chRowsTo_all (u : List Int) (n : Nat) (tt : Nat → Int) : chRowsTo u n tt n = chRows u n tt := rfl
theorem chRowsTo_in {u : List Int} {n : Nat} {tt : Nat → Int} {i : Nat} (h : (i : Int) ∈ (List.range n).map tt) : chRowsTo u n tt (i + 1) = chRowsTo u n tt i := by
  unfold chRowsTo
  rw [List.range_succ, List.filter_append]
  simp only [List.filter_cons, decide_eq_true h]
  simp
theorem chRowsTo_out {u : List Int} {n : Nat} {tt : Nat → Int} {i : Nat} (h : (i : Int) ∉ (List.range n).map tt) : chRowsTo u n tt (i + 1) = chRowsTo u n tt i ++ [chRow u n tt i] := by
  unfold chRowsTo
  rw [List.range_succ, List.filter_append]
  simp only [List.filter_cons, decide_eq_false h]
  simp
theorem chRowsTo_len (u : List Int) (n : Nat) (tt : Nat → Int) (i : Nat) : (chRowsTo u n tt i).length ≤ i := by
  unfold chRowsTo
  rw [List.length_map]
  exact Nat.le_trans (List.length_filter_le _ _) (by simp)
theorem chRow_step {u : List Int} {n : Nat} {tt fr : Nat → Int} (hm : Mt n (Ed fun k => u[k]!) (-1) tt fr) (hup : ∀ s k, s < n → k < n → Ed (fun k => u[k]!) s k → s < k) (k : Nat) (hk : k < n) : chRow u n tt k = u[k]! :: chRow u n tt (tt k) := by
  unfold chRow
  rw [rowFrom_step hm hup k hk]; rfl
theorem chRow_neg {u : List Int} {n : Nat} {tt : Nat → Int} {k : Int} (h : k < 0) : chRow u n tt k = [] := by
  unfold chRow
  rw [rowFrom_neg _ _ _ h]; rfl

end Go.Proofs.Ytcmllllbmgcnlaa.Ch

namespace Go.Proofs.Ytcmllllbmgcnlaa.Ch
open Go.RowKit Go.Deep Go.Proofs.Ytcmllllbmgcnlaa.C Go.Proofs.Ytcmllllbmgcnlaa.ChT Go.Proofs.YtcmllllbmgcnlaaW.PrintWords Go.Proofs.YtcmllllbmgcnlaaW.PrintLast Go.Proofs.YtcmllllbmgcnlaaW.PrintMore
set_option linter.unusedVariables false
set_option linter.unusedSimpArgs false

theorem Rw.lower {w : World} {base base' : Nat} {v : Value} {rvs : List Value} {rows : List (List Int)} (h : Rw w base v rvs rows) (hb : base' ≤ base) : Rw w base' v rvs rows :=
  ⟨own_weaken h.own hb, h.len, fun j h1 h2 => own_weaken (h.els j h1 h2) hb, h.apart⟩
theorem Rw.one_nil (w : World) (base : Nat) (hb : base ≤ w.heap.size) : Rw (w.alloc (.cells #[.slice none 0 0] 22)) base (.slice (some ⟨w.heap.size, 0, none⟩) 1 1) [.slice none 0 0] [[]] :=
  ⟨⟨rfl, .inr ⟨w.heap.size, 1, #[.slice none 0 0], rfl, hb, heap_alloc_new w _, Nat.le_refl _, by decide, rfl, rfl⟩⟩, rfl, fun j h1 h2 => by
    have e : j = 0 := by simp at h1; omega
    subst e
    exact own_nil _ _ _ _, by simp⟩

/-- What chains leaves. -/
def ChainsR (l : List Int) (w : World) (e : Ending) (w' : World) : Prop :=
  ∃ v rvs rows, e = .returned v ∧ ChainsOk l rows ∧ Rw w' w.heap.size v rvs rows ∧ Below w.heap.size w w' ∧ rows.length ≤ 257

set_option maxHeartbeats 8000000 in
set_option maxRecDepth 100000 in
theorem chains_calls (A : Option Addr) (c : Nat) (l : List Int) (w : World) (h : Sl w A c l) (hn : l.length ≤ 256) (h8 : ∀ x ∈ l, 0 ≤ x ∧ x < 256) :
    Calls Try.prog 70 #[.slice A l.length c] w (ChainsR l w) := by
  have HU := Aside0.mk (cunlike_calls A c l w h hn)
  have H8 := Aside0.mk h8
  obtain ⟨u, hu⟩ : ∃ u, u = unS l := ⟨_, rfl⟩
  rw [← hu] at HU
  have HUE := Aside0.mk hu
  have hul : u.length ≤ 256 := by have := (unS_spec l).2.2; rw [← hu] at this; omega
  obtain ⟨n, hnu⟩ : ∃ n, n = u.length := ⟨_, rfl⟩
  rw [← hnu] at hul
  have HNU := Aside0.mk hnu
  have HUP : Aside0 (∀ s k, s < n → k < n → Ed (fun k => u[k]!) s k → s < k) := ⟨fun s k hs hk he => by
    have hs' := unS_sorted l
    rw [← hu] at hs'
    refine edge_up hs' (fun x hx => ?_) (by omega) (by omega) he
    rw [hu] at hx
    exact h8 x (((unS_spec l).2.1 x).1 hx).1⟩
  clear h hn h8 hu hnu
  go_enter Try.func70, Try.ntmps70
  go_wp2_with (first
    | (go_at_call 85; refine (HU.out).mono ?_; rintro e w1 ⟨v1, rfl, ho1, hb1⟩; obtain ⟨Au, cu, ba, rfl, hla⟩ := ow_cells ho1; rw [← HNU.out] at hla; have HB1 := Aside0.mk hb1; have HLA := Aside0.mk hla; rw [← HNU.out]; clear ho1 hb1 hla)
    | (go_at_call 86; refine (next_calls n Au cu ba (fun k => u[k]!) w1 (by omega) HLA.out.2 HLA.out.1).mono ?_; rintro e w2 ⟨bt, bf, tt, fr, rfl, hnb, hno⟩; have HNB := Aside0.mk hnb; have HNO := Aside0.mk hno; clear hnb hno))
  obtain ⟨N, hN⟩ : ∃ N, N = w2.heap.size := ⟨_, rfl⟩
  have HBT : Aside0 (bt < N ∧ (0 < n → ba < N)) := ⟨by rw [hN]; exact HNB.out.rt.lt, fun h => by have := HNB.out.lb h; have := HNB.out.below.size; omega⟩
  have HN := Aside0.mk hN
  clear hN
  go_loopg [5, 15] n (fun gk v5 v15 wr => ∃ (i : Nat) (rvs : List Value) (A5 : Option Addr) (c5 : Nat), v15 = .int .i64 (i : Int) ∧ v5 = .slice A5 rvs.length c5 ∧ Aside0 (i + gk = n) ∧ Aside0 (Below N w2 wr) ∧ Aside0 (Rw wr N (.slice A5 rvs.length c5) rvs (chRowsTo u n tt i)))
  case atStart => exact ⟨0, [], none, 0, rfl, rfl, ⟨by omega⟩, ⟨Below.refl _ _⟩, ⟨Rw.nil _ _⟩⟩
  case round =>
    obtain ⟨i, rvs, A5, c5, rfl, rfl, HI, HB, HR⟩ := hrel
    by_cases hi : i < n
    · have hid : decide (i < n) = true := decide_eq_true hi
      have hii : (i : Int) < (n : Int) := by omega
      have HIL := Aside0.mk hi
      have hrt : wr.rowIs bt 3 n (fun k => .int .i64 (tt k)) := HNB.out.rt.of_block (HB.out.block _ HBT.out.1)
      have HRT := Aside0.mk hrt
      have hcon := contains_calls (some ⟨bt, 0, none⟩) n ((List.range n).map tt) (i : Int) wr (sl_rowIs hrt (by omega)) (by simp; omega)
      rw [List.length_map, List.length_range] at hcon
      clear hrt
      by_cases hmem : (i : Int) ∈ (List.range n).map tt
      · rw [decide_eq_true hmem] at hcon
        have HME := Aside0.mk hmem
        clear hmem
        go_wp2_with (first
          | (go_at_call 73; refine hcon.mono ?_; clear hcon; rintro e w3 ⟨rfl, ⟨nd, rfl⟩⟩))
        obtain ⟨g2, hg2⟩ : ∃ g2, g2 = gk - 1 := ⟨_, rfl⟩
        go_roundg g2
        case measure => have := HI.out; have := HIL.out; omega
        case rel => exact ⟨i + 1, rvs, A5, c5, by go_num, rfl, ⟨by have := HI.out; have := HIL.out; omega⟩, ⟨pw_below_drewN HB.out _⟩, ⟨by rw [chRowsTo_in HME.out]; exact HR.out.below (pw_below_drewN (Below.refl _ _) _)⟩⟩
      · rw [decide_eq_false hmem] at hcon
        have HME := Aside0.mk hmem
        clear hmem
        go_wp2_with (first
          | (go_at_call 73; refine hcon.mono ?_; clear hcon; rintro e w3 ⟨rfl, ⟨nd, rfl⟩⟩))
        have HB3 : Aside0 (Below N w2 (wr.drewN nd)) := ⟨pw_below_drewN HB.out _⟩
        have HR3 : Aside0 (Rg (wr.drewN nd) N (.slice A5 rvs.length c5) rvs (chRowsTo u n tt i) (.slice none 0 0) []) := ⟨Rg.start (HR.out.below (pw_below_drewN (Below.refl _ _) _))⟩
        have HLR : Aside0 (rvs.length ≤ 256) := ⟨by have h1 := HR.out.len; have h2 := chRowsTo_len u n tt i; have := HIL.out; omega⟩
        clear HB HR HRT hii hid hi
        generalize wr.drewN nd = W3 at HB3 HR3 ⊢
        go_loopg [7, 8] n (fun gk v7 v8 wr => ∃ (k : Int) (r : List Int) (A7 : Option Addr) (c7 : Nat), v8 = .int .i64 k ∧ v7 = .slice A7 r.length c7 ∧ Aside0 (Pl n k) ∧ Aside0 (0 ≤ k → n - k.toNat ≤ gk) ∧ Aside0 (r ++ chRow u n tt k = chRow u n tt i) ∧ Aside0 (r.length ≤ n) ∧ Aside0 (Below N w2 wr) ∧ Aside0 (Rg wr N (.slice A5 rvs.length c5) rvs (chRowsTo u n tt i) (.slice A7 r.length c7) r))
        case atStart => exact ⟨(i : Int), [], none, 0, rfl, rfl, ⟨.inr ⟨i, HIL.out, rfl⟩⟩, ⟨fun _ => by omega⟩, ⟨rfl⟩, ⟨by simp⟩, HB3, HR3⟩
        case round =>
          obtain ⟨k, r, A7, c7, rfl, rfl, HP, HG, HE, HLN, HB4, HR4⟩ := hrel
          by_cases hk : 0 ≤ k
          · have hkd : decide (0 ≤ k) = true := decide_eq_true hk
            obtain ⟨q, hq, rfl⟩ := HP.out.pos hk
            have hqi : (q : Int) < (n : Int) := by omega
            obtain ⟨rfl, _⟩ := HLA.out.2 q hq
            obtain ⟨x, hx⟩ : ∃ x, x = u[q]! := ⟨_, rfl⟩
            have hlk : wr.cell? ⟨ba, q, none⟩ = some (.int .i64 x) := by
              have h1 := (HNB.out.cell q hq).2
              rw [Nat.zero_add] at h1
              rw [HB4.out.cell (p := ⟨ba, q, none⟩) (HBT.out.2 (by omega)), hx]; exact h1
            have HX := Aside0.mk hx
            have HQ := Aside0.mk hq
            have hst := chRow_step HNO.out.1 HUP.out q hq
            rw [← hx] at hst
            have HST := Aside0.mk hst
            have HRL : Aside0 (r.length + 1 ≤ n ∧ N ≤ wr.heap.size) := ⟨by
              have h1 := congrArg List.length HE.out
              rw [hst] at h1
              have h2 := chRow_len u n tt (i : Int)
              simp at h1; omega, by rw [HN.out]; exact HB4.out.size⟩
            clear hx hq hst hk
            go_wp2_with (first
              | ((with_reducible refine gate_builtin (b := .append) (xs := #[.tmp 28, .tmp 33]) rfl ?_); at_builtin; refine print_append (w0 := w2) N rfl (.tmp 28) (.tmp 33) 22 3 (.int .i64 0) 8 rfl Try.underlying22 info3 rfl (by decide) (.slice A7 r.length c7) (r.map (Value.int .i64)) (.int .i64 x) rfl rfl rfl ?aO HB4.out HRL.out.2 ?aL ?_; (case aO => rw [List.length_map]; exact HR4.out.ow); (case aL => rw [List.length_map]; have := HRL.out; omega); intro v6 w6 q6 b6 g6 t6; have HR6 := Aside0.mk (HR4.out.more q6 g6 t6); obtain ⟨A8, c8, hv6, _⟩ := ow_slice HR6.out.ow; subst hv6; have HB6 := Aside0.mk b6; have htk := (HNB.out.rt.of_block (b6.block _ HBT.out.1)).cell HQ.out; clear q6 b6 g6 t6 hlk))
            obtain ⟨g2, hg2⟩ : ∃ g2, g2 = gk - 1 := ⟨_, rfl⟩
            go_roundg g2
            case measure => have := HG.out (by omega); have := HQ.out; omega
            case rel =>
              refine ⟨tt q, r ++ [x], A8, c8, rfl, by simp, ⟨HNO.out.1.rt q HQ.out⟩, ⟨fun h0 => ?_⟩, ⟨by rw [← HE.out, HST.out]; simp⟩, ⟨by simp; exact HRL.out.1⟩, HB6, HR6⟩
              obtain ⟨p, hp, e⟩ := (HNO.out.1.rt q HQ.out).pos h0
              have h1 := HUP.out q p HQ.out hp (HNO.out.1.tf q HQ.out p e).2.1
              have := HG.out (by omega)
              rw [e, Int.toNat_natCast]
              omega
          · have hkd : decide (0 ≤ k) = false := decide_eq_false hk
            have hr : r = chRow u n tt (i : Int) := by
              have := HE.out
              rwa [chRow_neg (by omega), List.append_nil] at this
            have HRR := Aside0.mk hr
            have HRL : Aside0 (N ≤ wr.heap.size) := ⟨by rw [HN.out]; exact HB4.out.size⟩
            clear hr hk
            go_wp2_with (first
              | ((with_reducible refine gate_builtin (b := .append) (xs := #[.tmp 35, .tmp 37]) rfl ?_); at_builtin; refine print_append (w0 := w2) N rfl (.tmp 35) (.tmp 37) 23 22 (.slice none 0 0) 24 rfl Try.underlying23 infoRow rfl (by decide) (.slice A5 rvs.length c5) rvs (.slice A7 r.length c7) rfl rfl rfl HR4.out.rw_.own HB4.out HRL.out ?aL ?_; (case aL => have := HLR.out; omega); intro v6 w6 q6 b6 g6 t6; have HR6 := Aside0.mk (HR4.out.snoc q6 g6); obtain ⟨A8, c8, hv6⟩ := own_slice HR6.out.own; subst hv6; have HB6 := Aside0.mk b6; clear q6 b6 g6 t6))
            obtain ⟨g2, hg2⟩ : ∃ g2, g2 = n - (i + 1) := ⟨_, rfl⟩
            go_roundg g2
            case measure => have := HI.out; have := HIL.out; omega
            case rel => exact ⟨i + 1, rvs ++ [.slice A7 r.length c7], A8, c8, by rw [wrap_nat _ (by have := HIL.out; omega)], by simp, ⟨by have := HI.out; have := HIL.out; omega⟩, HB6, ⟨by rw [chRowsTo_out HME.out, ← HRR.out]; exact HR6.out⟩⟩
    · have hid : decide (i < n) = false := decide_eq_false hi
      have hin : i = n := by have := HI.out; omega
      have HBW : Aside0 (Below w.heap.size w wr) := ⟨by
        have h1 := HB1.out.trans (HNB.out.below.mono HB1.out.size)
        exact h1.trans (HB.out.mono (by rw [HN.out]; exact h1.size))⟩
      have HNW : Aside0 (w.heap.size ≤ N) := ⟨by rw [HN.out]; have h1 := HB1.out.size; have h2 := HNB.out.below.size; omega⟩
      have hok := chains_ok H8.out HUE.out HNU.out HNO.out
      rw [hin, chRowsTo_all] at HR
      rw [← HR.out.len] at hok
      have hrl : (chRows u n tt).length ≤ n := by rw [← chRowsTo_all]; exact chRowsTo_len u n tt n
      have HRL := Aside0.mk hrl
      have HOK := Aside0.mk hok
      clear hok hin hrl
      by_cases h0 : rvs.length = 0
      · have h0d : ((rvs.length : Int) == 0) = true := beq_iff_eq.2 (by omega)
        have H0 := Aside0.mk h0
        clear h0
        go_wp2_with fail
        go_ret
        refine ⟨_, _, _, rfl, ?_, Rw.one_nil wr w.heap.size HBW.out.size, HBW.out.alloc HBW.out.size _, by simp⟩
        have := HOK.out
        rwa [if_pos H0.out] at this
      · have h0d : ((rvs.length : Int) == 0) = false := beq_eq_false_iff_ne.2 (by omega)
        have H0 := Aside0.mk h0
        clear h0
        go_wp2_with fail
        go_ret
        refine ⟨_, _, _, rfl, ?_, HR.out.lower HNW.out, HBW.out, by have := HRL.out; omega⟩
        have := HOK.out
        rwa [if_neg H0.out] at this

end Go.Proofs.Ytcmllllbmgcnlaa.Ch

namespace Go.Proofs.Ytcmllllbmgcnlaa.Ch
open Go.RowKit Go.Deep Go.Proofs.Ytcmllllbmgcnlaa.C Go.Proofs.Ytcmllllbmgcnlaa.ChT Go.Proofs.YtcmllllbmgcnlaaW.PrintWords Go.Proofs.YtcmllllbmgcnlaaW.PrintLast Go.Proofs.YtcmllllbmgcnlaaW.PrintMore
set_option linter.unusedVariables false
set_option linter.unusedSimpArgs false

set_option maxHeartbeats 4000000 in
set_option maxRecDepth 100000 in
theorem least_calls (A : Option Addr) (c : Nat) (l : List Int) (w : World) (h : Sl w A c l) :
    Calls Try.prog 38 #[.slice A l.length c] w fun e w' => (∃ x y, e = .returned (.tuple #[.int .i64 x, .int .i64 y]) ∧ LeastR l x y) ∧ Below w.heap.size w w' := by
  have hW := wrong_calls 8 (by decide) A c l w h
  by_cases h0 : wrongS 8 l = 0
  · obtain ⟨hn, h8⟩ := ok_wrong h0
    have HC : Aside0 (∀ m, Calls Try.prog 70 #[.slice A l.length c] (w.drewN m) (ChainsR l (w.drewN m))) := ⟨fun m => chains_calls A c l (w.drewN m) (h.drewN m) hn h8⟩
    rw [h0] at hW
    have H0 := Aside0.mk h0
    clear h h0 h8 hn
    go_enter Try.func38, Try.ntmps38
    go_wp2_with (first
      | (go_at_call 69; refine hW.mono ?_; clear hW; rintro e w1 ⟨rfl, ⟨m, rfl⟩⟩)
      | (go_at_call 70; refine (HC.out m).mono ?_; rintro e w2 ⟨v, rvs, rows, rfl, hok, hrw, hb, hl⟩; obtain ⟨A2, c2, rfl⟩ := own_slice hrw.own; have HOK := Aside0.mk hok; have HRW := Aside0.mk hrw; have HB := Aside0.mk hb; clear hok hrw hb))
    go_ret2
    exact ⟨⟨rvs.length, 0, rfl, H0.out.symm, fun h => absurd rfl h, fun _ => ⟨rvs.length, by rw [HRW.out.len]; exact HOK.out.least, rfl⟩⟩, (pw_below_drewN (Below.refl _ w) m).trans HB.out⟩
  · obtain ⟨y, hy⟩ : ∃ y, y = wrongS 8 l := ⟨_, rfl⟩
    rw [← hy] at hW h0
    have hyd : (y != 0) = true := bne_iff_ne.2 h0
    have HY := Aside0.mk (And.intro hy h0)
    clear h hy h0
    go_enter Try.func38, Try.ntmps38
    go_wp2_with (first
      | (go_at_call 69; refine hW.mono ?_; clear hW; rintro e w1 ⟨rfl, ⟨m, rfl⟩⟩))
    go_ret2
    exact ⟨⟨0, y, rfl, HY.out.1, fun _ => rfl, fun h => absurd h HY.out.2⟩, pw_below_drewN (Below.refl _ w) m⟩

end Go.Proofs.Ytcmllllbmgcnlaa.Ch
