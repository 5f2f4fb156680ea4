/- BtreeOne, walked. The statement BtreeOne: whatever the input, the law answers true, and the input reads as it did. Conditions: none. -/
import Derived.Test.YtcmllllbmgcnlaaK6
import Derived.Test.YtcmllllbmgcnlaaRows
import Derived.WalkKit
import Derived.ProofKit
import Derived.OpenShut
import Derived.ShutString
import Derived.ChangeOld
import Derived.Below
import Derived.SizedLaws
import Derived.Test.YtcmllllbmgcnlaaWSized
namespace Go.Proofs.Ytcmllllbmgcnlaa.Tup
open Go.RowKit Go.Lib Go.Shelf Go.Proofs.Ytcmllllbmgcnlaa.F Go.Proofs.YtcmllllbmgcnlaaW.PrintWords Go.Proofs.YtcmllllbmgcnlaaW.PrintLast Go.Proofs.YtcmllllbmgcnlaaW.PrintMore
set_option linter.unusedVariables false
set_option linter.unusedSimpArgs false

set_option maxHeartbeats 2000000 in
set_option maxRecDepth 100000 in
theorem one_no (W : World) (A0 : Option Addr) (c0 : Nat) (o : Tp) (h0 : Sl W A0 c0 o) (ho : ¬ Rt o) (A1 : Option Addr) (c1 n : Nat) (by_ : Int) :
    Calls Try.prog 3 #[.slice A0 o.length c0, .slice A1 n c1, .int .i64 by_] W fun e w' => e = .returned (.bool true) ∧ Below W.heap.size W w' := by
  have hN1 := new_no W A0 c0 o h0 ho
  have HO := Aside0.mk ho
  have H0 := Aside0.mk h0
  clear ho h0
  go_enter Try.func3, Try.ntmps3
  go_wp2_with (first
    | (go_at_call 16; refine hN1.mono ?_; clear hN1; rintro e w1 ⟨rfl, hb1⟩; have HB1 := Aside0.mk hb1; have hN2 := new_no w1 A0 c0 o (H0.out.below hb1) HO.out; clear hb1)
    | (go_at_call 16; refine hN2.mono ?_; clear hN2; rintro e w2 ⟨rfl, hb2⟩; have HS2 := Aside0.mk ((Since.mk HB1.out).step hb2); clear hb2)
    | (go_at_call 17; refine (alive_calls w2).mono ?_; rintro e w3 ⟨rfl, hb3⟩; have HS3 := Aside0.mk (HS2.out.step hb3); clear hb3))
  go_ret
  exact ⟨rfl, HS3.out.b⟩

set_option maxHeartbeats 2000000 in
set_option maxRecDepth 100000 in
theorem one_few (W : World) (A0 : Option Addr) (c0 : Nat) (o : Tp) (h0 : Sl W A0 c0 o) (ho : Rt o) (A1 : Option Addr) (c1 n : Nat) (hn : n = 0 ∨ 1024 < n) (by_ : Int) :
    Calls Try.prog 3 #[.slice A0 o.length c0, .slice A1 n c1, .int .i64 by_] W fun e w' => e = .returned (.bool true) ∧ Below W.heap.size W w' := by
  have hN1 := new_yes W A0 c0 o h0 ho
  have HO := Aside0.mk ho
  have H0 := Aside0.mk h0
  clear ho h0
  have main : ∀ hn' : (n = 0 ∨ ((n : Int) > 1024 ∧ ¬ n = 0)), Calls Try.prog 3 #[.slice A0 o.length c0, .slice A1 n c1, .int .i64 by_] W fun e w' => e = .returned (.bool true) ∧ Below W.heap.size W w' := by
    intro hn'
    rcases hn' with rfl | ⟨h1, h2⟩
    · go_enter Try.func3, Try.ntmps3
      go_wp2_with (first
        | (go_at_call 16; refine hN1.mono ?_; clear hN1; rintro e w1 ⟨hb1, bs1, Ab1, cb1, rt1, rfl, hbs1, hS1⟩; have HB1 := Aside0.mk hb1; have hN2 := new_yes w1 A0 c0 o (H0.out.below hb1) HO.out; clear hb1 hbs1 hS1)
        | (go_at_call 16; refine hN2.mono ?_; clear hN2; rintro e w2 ⟨hb2, bs2, Ab2, cb2, rt2, rfl, hbs2, hS2⟩; have HS2 := Aside0.mk ((Since.mk HB1.out).step hb2); clear hb2 hbs2 hS2)
        | (go_at_call 17; refine (alive_calls w2).mono ?_; rintro e w3 ⟨rfl, hb3⟩; have HS3 := Aside0.mk (HS2.out.step hb3); clear hb3))
      go_ret
      exact ⟨rfl, HS3.out.b⟩
    · have h3 : ((n : Int) == 0) = false := beq_eq_false_iff_ne.2 (by omega)
      go_enter Try.func3, Try.ntmps3
      go_wp2_with (first
        | (go_at_call 16; refine hN1.mono ?_; clear hN1; rintro e w1 ⟨hb1, bs1, Ab1, cb1, rt1, rfl, hbs1, hS1⟩; have HB1 := Aside0.mk hb1; have hN2 := new_yes w1 A0 c0 o (H0.out.below hb1) HO.out; clear hb1 hbs1 hS1)
        | (go_at_call 16; refine hN2.mono ?_; clear hN2; rintro e w2 ⟨hb2, bs2, Ab2, cb2, rt2, rfl, hbs2, hS2⟩; have HS2 := Aside0.mk ((Since.mk HB1.out).step hb2); clear hb2 hbs2 hS2)
        | (go_at_call 17; refine (alive_calls w2).mono ?_; rintro e w3 ⟨rfl, hb3⟩; have HS3 := Aside0.mk (HS2.out.step hb3); clear hb3))
      go_ret
      exact ⟨rfl, HS3.out.b⟩
  exact main (by omega)

theorem tup_some {W : World} {ad : Addr} {n : Nat} {ts : List Tp} (h : Kd.C KT W (some ad) n ts) (i : Nat) (hi : i < ts.length) (x : Tp) (hx : x = ts[i]) : ∃ Ai ci, W.cell? (ad.add i) = some (.slice Ai x.length ci) ∧ Sl W Ai ci x := by
  obtain ⟨ad', Ai, ci, e, h1, h2⟩ := tup_at h i hi
  cases e
  rw [← hx] at h1 h2
  exact ⟨Ai, ci, h1, h2⟩
/-- Where the turning begins. -/
theorem turn_at (b : Int) (n : Nat) (hn : 1 ≤ n ∧ n ≤ 1024) : ∃ m : Nat, (wrap64 (b.tmod (n : Int) + (n : Int))).tmod (n : Int) = (m : Int) ∧ m < n := by
  have h1 := Int.tmod_lt_of_pos b (show (0 : Int) < (n : Int) by omega)
  have h2 : -(n : Int) < b.tmod (n : Int) := by
    have := Int.tmod_lt_of_pos (-b) (show (0 : Int) < (n : Int) by omega)
    rw [Int.neg_tmod] at this
    omega
  have hw : wrap64 (b.tmod (n : Int) + (n : Int)) = b.tmod (n : Int) + (n : Int) := by unfold wrap64; omega
  rw [hw, Int.tmod_eq_emod_of_nonneg (by omega)]
  have h3 := Int.emod_nonneg (b.tmod (n : Int) + (n : Int)) (show (n : Int) ≠ 0 by omega)
  have h4 := Int.emod_lt_of_pos (b.tmod (n : Int) + (n : Int)) (show (0 : Int) < (n : Int) by omega)
  exact ⟨((b.tmod (n : Int) + (n : Int)) % (n : Int)).toNat, by omega, by omega⟩

set_option maxHeartbeats 4000000 in
set_option maxRecDepth 100000 in
theorem one_main (W : World) (A0 : Option Addr) (c0 : Nat) (o : Tp) (h0 : Sl W A0 c0 o) (ho : Rt o) (A1 : Option Addr) (c1 n : Nat) (ls : List Tp) (hls : Kd.C KT W A1 n ls) (hc1 : n ≤ c1) (hn : 1 ≤ n ∧ n ≤ 1024) (by_ : Int) :
    Calls Try.prog 3 #[.slice A0 o.length c0, .slice A1 n c1, .int .i64 by_] W fun e w' => e = .returned (.bool true) ∧ Below W.heap.size W w' := by
  have hN1 := new_yes W A0 c0 o h0 ho
  have HO := Aside0.mk ho
  have H0 := Aside0.mk h0
  have HLS := Aside0.mk hls
  have h1 : ¬ n = 0 := by omega
  have h2 : ¬ (n : Int) > 1024 := by omega
  have h3 : ((n : Int) == 0) = false := beq_eq_false_iff_ne.2 (by omega)
  obtain ⟨m, hm, hmn⟩ := turn_at by_ n hn
  clear ho h0 hls
  go_enter Try.func3, Try.ntmps3
  go_wp2_with (first
    | (go_at_call 16; refine hN1.mono ?_; clear hN1; rintro e w1 ⟨hb1, bs1, Ab1, cb1, rt1, rfl, hbs1, hS1⟩; have HB1 := Aside0.mk hb1; have HBS1 := Aside0.mk hbs1; have HS1 := Aside0.mk hS1; have hN2 := new_yes w1 A0 c0 o (H0.out.below hb1) HO.out; clear hb1 hbs1 hS1)
    | (go_at_call 16; refine hN2.mono ?_; clear hN2; rintro e w2 ⟨hb2, bs2, Ab2, cb2, rt2, rfl, hbs2, hS2⟩; have HB2 := Aside0.mk ((Since.mk HB1.out).step hb2); have HT := Aside0.mk (two_new HS1.out ⟨hb2⟩ hbs2 hS2); have HBS2 := Aside0.mk hbs2; clear hb2 hS2)
    | (go_at_call 17; refine (alive_calls w2).mono ?_; rintro e w3 ⟨rfl, hb3⟩; have HS3 := Aside0.mk (HB2.out.step hb3); have HT3 := Aside0.mk (HT.out.since ⟨hb3⟩); clear hb3))
  go_loopg [53] n (fun gk v53 w' => ∃ i rs1 T1 rs2 T2, v53 = .int .i64 ((i : Nat) : Int) ∧ Aside0 (i + gk = n) ∧ Aside0 (Two w' bs1 bs2 Ab1 cb1 o rs1 T1 Ab2 cb2 o rs2 T2) ∧ Aside0 (T1.io = insAll o [] (ls.take i)) ∧ Aside0 (T2.io = insAll o [] ((List.range i).map fun j => ls.getD (n - 1 - (j + m) % n) [])) ∧ Aside0 (Below W.heap.size W w'))
  case atStart => exact ⟨0, rt1, _, rt2, _, rfl, ⟨by omega⟩, HT3, ⟨by rw [BT.io_mk]; rfl⟩, ⟨by rw [BT.io_mk]; rfl⟩, ⟨HS3.out.b⟩⟩
  case round =>
    obtain ⟨i, rs1, T1, rs2, T2, rfl, HI, HTW, HE1, HE2, HBW⟩ := hrel
    by_cases hi : i < n
    · have hlen : ls.length = n := HLS.out.1
      have hil : i < ls.length := by omega
      obtain ⟨q, hq⟩ : ∃ q, q = n - 1 - (i + m) % n := ⟨_, rfl⟩
      have hmod : (i + m) % n < n := Nat.mod_lt _ (by omega)
      have hql : q < ls.length := by omega
      have hii : (i : Int) < (n : Int) := by omega
      have t1 : ((i : Int) + (m : Int)).tmod (n : Int) = (((i + m) % n : Nat) : Int) := by rw [Int.tmod_eq_emod_of_nonneg (by omega)]; norm_cast
      have t2 : (n : Int) - 1 - (((i + m) % n : Nat) : Int) = (q : Int) := by omega
      obtain ⟨ad, Ai, ci, rfl, hcell, sl⟩ := tup_at (Kd.C_below HLS.out HBW.out) i hil
      have t3 : wrap64 ((n : Int) - 1 - ((i : Int) + (m : Int)) % (n : Int)) = (q : Int) := by
        have e : ((i : Int) + (m : Int)) % (n : Int) = (((i + m) % n : Nat) : Int) := by norm_cast
        rw [e]; unfold wrap64; omega
      have hw1 : IntKind.i64.wrap ((n : Int) - 1) = (n : Int) - 1 := by rw [IntKind.wrap_i64]; omega
      have hw2 : IntKind.i64.wrap ((i : Int) + (m : Int)) = (i : Int) + (m : Int) := by rw [IntKind.wrap_i64]; omega
      have hw3 : IntKind.i64.wrap ((n : Int) - 1 - (((i + m) % n : Nat) : Int)) = (q : Int) := by rw [IntKind.wrap_i64]; omega
      obtain ⟨x, hx⟩ : ∃ x, x = ls[i] := ⟨_, rfl⟩
      obtain ⟨y, hy⟩ : ∃ y, y = ls[q] := ⟨_, rfl⟩
      rw [← hx] at hcell sl
      have HXY := Aside0.mk (And.intro hx hy)
      have h1c := two_ins wr HTW.out Ai ci x sl
      have HQL := Aside0.mk hql
      have HIL := Aside0.mk hil
      have HQE := Aside0.mk hq
      clear hx hy hlen hmod hq sl
      go_wp2_with (first
        | (go_at_call 18; refine h1c.mono ?_; clear h1c; rintro e w4 ⟨rs3, T3, rfl, hT4, hio3, hk4⟩; have HB4 := Aside0.mk (kept_below HBW.out hk4 HBS1.out); have HIO3 := Aside0.mk hio3; obtain ⟨Aq, cq, hcell2, sl2⟩ := tup_some (Kd.C_below HLS.out HB4.out) q HQL.out y HXY.out.2; have h2c := two_ins2 w4 hT4 Aq cq y sl2; clear hT4 hio3 hk4 sl2)
        | (go_at_call 18; refine h2c.mono ?_; clear h2c; rintro e w5 ⟨rs4, T4, rfl, hT5, hio4, hk5⟩; have HB5 := Aside0.mk (kept_below HB4.out hk5 (Nat.le_trans HB1.out.size HBS2.out)); have HT5 := Aside0.mk hT5; have HIO4 := Aside0.mk hio4; clear hT5 hio4 hk5))
      obtain ⟨k2, hk2⟩ : ∃ k2, k2 = gk - 1 := ⟨_, rfl⟩
      go_roundg k2
      case measure => have := HI.out; omega
      case rel => exact ⟨i + 1, rs3, T3, rs4, T4, by go_num, ⟨by have := HI.out; omega⟩, HT5, ⟨by
        rw [HIO3.out, HE1.out, ← insAll_snoc, HXY.out.1, List.take_add_one, List.getElem?_eq_getElem HIL.out]; rfl⟩, ⟨by
        rw [HIO4.out, HE2.out, ← insAll_snoc, List.range_succ, List.map_append]; have hq := HQE.out; rw [HXY.out.2]; simp [← hq, HQL.out]⟩, HB5⟩
    · obtain rfl : i = n := by have := HI.out; omega
      have hlen : ls.length = i := HLS.out.1
      have heq : T1.io = T2.io := by
        rw [HE1.out, HE2.out]
        refine insAll_same HO.out _ _ (by simp; omega) (by simp; omega) fun a => ?_
        rw [List.take_of_length_le (by omega)]
        constructor
        · intro ha
          obtain ⟨j, hj, rfl⟩ := List.getElem_of_mem ha
          refine List.mem_map.2 ⟨(i - 1 - j + (i - m)) % i, List.mem_range.2 (Nat.mod_lt _ (by omega)), ?_⟩
          have e1 : ((i - 1 - j + (i - m)) % i + m) % i = i - 1 - j := by
            rw [Nat.mod_add_mod, show i - 1 - j + (i - m) + m = (i - 1 - j) + i by omega, Nat.add_mod_right, Nat.mod_eq_of_lt (by omega)]
          rw [e1, show i - 1 - (i - 1 - j) = j by omega]
          simp [hj]
        · intro ha
          obtain ⟨j, hj, rfl⟩ := List.mem_map.1 ha
          have hj2 := Nat.mod_lt (j + m) (show 0 < i by omega)
          have hlt : i - 1 - (j + m) % i < ls.length := by omega
          simp [hlt]
      have HEQ := Aside0.mk heq
      have HT1 := Aside0.mk HTW.out.s1
      have HT2 := Aside0.mk HTW.out.s2
      have hL1 := len_calls wr bs1 HTW.out.s1
      have hL2 := len_calls wr bs2 HTW.out.s2
      rw [← heq] at hL2
      obtain ⟨L, hL⟩ : ∃ L, L = T1.io := ⟨_, rfl⟩
      rw [← hL] at hL1 hL2
      have HL := Aside0.mk hL
      have hA1 := all_calls wr (.pointer (some ⟨bs1, 0, none⟩)) ⟨_, rfl⟩
      clear heq hL hlen hm
      go_wp2_with (first
        | (go_at_call 19; refine hL1.mono ?_; clear hL1; rintro e w6 ⟨rfl, rfl⟩)
        | (go_at_call 19; refine hL2.mono ?_; clear hL2; rintro e w6 ⟨rfl, rfl⟩)
        | (go_at_call 22; refine hA1.mono ?_; clear hA1; rintro e w7 ⟨rfl, rfl⟩; have HS7 := Aside0.mk (Since.alloc (Since.refl wr) (.cells #[.pointer (some ⟨bs1, 0, none⟩)] 24)); have hLs := listA_calls _ wr.heap.size bs1 (HT1.out.since HS7.out) ((cell_of_heap (heap_alloc_new wr (.cells #[.pointer (some ⟨bs1, 0, none⟩)] 24)) 0).trans rfl); rw [← HL.out] at hLs)
        | (go_at_call 21; refine hLs.mono ?_; clear hLs; rintro e w8 ⟨A8, c8, rfl, hc8, hF8, hb8⟩; have HS8 := Aside0.mk (HS7.out.step hb8); have HF8 := Aside0.mk hF8; have hA2 := all_calls w8 (.pointer (some ⟨bs2, 0, none⟩)) ⟨_, rfl⟩; clear hF8 hb8)
        | (go_at_call 22; refine hA2.mono ?_; clear hA2; rintro e w9 ⟨rfl, rfl⟩; have HS9 := Aside0.mk (Since.alloc HS8.out (.cells #[.pointer (some ⟨bs2, 0, none⟩)] 24)); have hLt := listA_calls _ w8.heap.size bs2 (HT2.out.since HS9.out) ((cell_of_heap (heap_alloc_new w8 (.cells #[.pointer (some ⟨bs2, 0, none⟩)] 24)) 0).trans rfl); rw [← HEQ.out, ← HL.out] at hLt)
        | (go_at_call 21; refine hLt.mono ?_; clear hLt; rintro e w10 ⟨A10, c10, rfl, hc10, hF10, hb10⟩; have HS10 := Aside0.mk (HS9.out.step hb10); have HF10 := Aside0.mk hF10; have HB10 := Aside0.mk hb10; have hSm := same2_calls A8 c8 L A10 c10 L w10 (Kd.F_now (Kd.F_below (Kd.F_below HF8.out (below_alloc (Below.refl _ _) _)) HB10.out)) hc8 (Kd.F_now HF10.out) hc10 8 (fun t ht => by rw [HL.out] at ht; have := (HT1.out.fit t ht).1; have := HT1.out.rto.1; omega) (by omega) (by rw [HL.out]; have := HT1.out.le; omega); clear hF10 hb10)
        | (go_at_call 20; refine hSm.mono ?_; clear hSm; rintro e w11 ⟨rfl, hd11⟩; have HS11 := Aside0.mk (HS10.out.trans (Since.ofDrawn hd11)); clear hd11))
      go_ret
      exact ⟨by simp, below_then HBW.out HBW.out.size HS11.out.b⟩

theorem one_law_calls {W : World} (A0 : Option Addr) (c0 : Nat) (o : Tp) (h0 : Sl W A0 c0 o) (A1 : Option Addr) (c1 : Nat) (ls : List Tp) (h1 : Rs W A1 c1 ls) (by_ : Int) (hw : (Lit.int .i64 by_).wf = true) (W' : World) (e : W' = W) :
    Calls Try.prog 3 #[.slice A0 o.length c0, .slice A1 ls.length c1, .int .i64 by_] W' fun e w' => e = .returned (.bool true) ∧ Below W.heap.size W w' := by
  subst e
  by_cases ho : Rt o
  · by_cases hn : ls.length = 0 ∨ 1024 < ls.length
    · exact one_few W' A0 c0 o h0 ho A1 c1 _ hn by_
    · exact one_main W' A0 c0 o h0 ho A1 c1 _ ls h1.C h1.le (by omega) by_
  · exact one_no W' A0 c0 o h0 ho A1 c1 _ by_

end Go.Proofs.Ytcmllllbmgcnlaa.Tup

namespace Go.Proofs.Ytcmllllbmgcnlaa.btreeOne
open Go.ChangeShapes Go.WideShapes Go.ChangeAt Go.RowKit Go.Proofs.YtcmllllbmgcnlaaW Go.Proofs.Ytcmllllbmgcnlaa.Tup
open Go.ChangeMaps (open_string shut_string)
set_option linter.unusedVariables false
theorem own : ownKnob Try.prog.godebug = none := by kernel_rfl
theorem laidOut : laidOutB Try.prog = true := by kernel_rfl
set_option maxRecDepth 100000 in
theorem lifted (os : Os) (started : os.Started) (H : Type) (enc : TypeId × Value → H) :
    ReturnsInHanded {} Try.checked os 3 .any (Rows.btreeOneSpec.pre6 enc Try.prog Try.f3 Rows.btreeOneRow.domain false) (Rows.btreeOneSpec.post enc Try.prog Try.f3 false true false false) := by
  refine returnsInHanded_of_change_sized (C := Try.checked) own started (by kernel_rfl) Try.func3
    (ChangeSpec.witness6 (enc := enc) (C := Try.checked) false ⟨#[], #[.slice none 0 0, .slice none 0 0, .int .i64 0], []⟩ 8 (by kernel_rfl) (by kernel_rfl) (by kernel_rfl) (by kernel_rfl)) ?_
  intro W base args ds gs before hval0 hW hcnd hsz0 _
  have hsz : (DataW.weightsEach Try.prog (Try.f3.params.toList ++ Rows.btreeOneSpec.plain.varTypes Try.prog) (ds ++ gs)).all (· ≤ reachBytes) = true := hsz0
  have hval : ∀ (j : Nat) t v, Try.f3.params[j]? = some t → args[j]? = some v → Value.okWide Try.prog W .any base t v := hval0
  have hW' := hW
  obtain ⟨p, q, hA0, hV, rfl, hfz, hnd⟩ := hW
  have hA : DataW.TrodAll enc Try.prog W 0 (fun _ => true) true Try.f3.params.toList args.toList ds p := hA0
  rw [Try.params3] at hA hval hsz
  obtain ⟨v0, vs0, d0, ds0, p0, q0, hargs, rfl, rfl, h0, r0⟩ := trodAll_cons hA
  obtain ⟨v1, vs1, d1, ds1, p1, q1, rfl, rfl, rfl, h1, r1⟩ := trodAll_cons r0
  obtain ⟨v2, vs2, d2, ds2, p2, q2, rfl, rfl, rfl, h2, r2⟩ := trodAll_cons r1
  obtain ⟨rfl, rfl, rfl⟩ := trodAll_nil r2
  obtain rfl : args = #[v0, v1, v2] := by cases args; simp_all
  obtain ⟨rfl, rfl⟩ := trodVars_none hV
  have k0 := h0
  have lt0 : ∀ x ∈ p0, x.block < W.heap.size := by obtain ⟨m, hm⟩ := k0; exact DataW.trod_lt m _ _ _ hm
  obtain ⟨A0, c0, l0, rfl, s0, f0⟩ := open_sl (hval 0 22 v0 rfl rfl) h0
  have k1 := h1
  have lt1 : ∀ x ∈ p1, x.block < W.heap.size := by obtain ⟨m, hm⟩ := k1; exact DataW.trod_lt m _ _ _ hm
  obtain ⟨A1, c1, l1, rfl, s1⟩ := open_rows (hval 1 23 v1 rfl rfl) h1
  have k2 := h2
  have lt2 : ∀ x ∈ p2, x.block < W.heap.size := by obtain ⟨m, hm⟩ := k2; exact DataW.trod_lt m _ _ _ hm
  obtain ⟨n2, rfl, rfl, rfl, w2⟩ := open_int Try.underlying3 (hval 2 3 v2 rfl rfl) h2
  clear hA0 hval0 hsz0 hsz
  refine (one_law_calls A0 c0 l0 s0 A1 c1 l1 s1 n2 w2 W rfl).mono fun e W' ⟨he, bel⟩ => ?_
  subst he
  exact ⟨_, rfl, _, _, _, [], _, [], hW', trodAll_mk1 (shut_bool Try.underlying4 _), (trodAll_cons_mk (Below.trod laidOut (by kernel_rfl) (of_decide_eq_true (by kernel_rfl)) k0 bel lt0) (trodAll_cons_mk (Below.trod laidOut (by kernel_rfl) (of_decide_eq_true (by kernel_rfl)) k1 bel lt1) (trodAll_cons_mk (shut_int Try.underlying3 w2) trodAll_mk0))), rfl, bel.frame _, fun h => by cases h⟩
theorem over : Rows.btreeOneRow.holds Try.pinned (OpenSpec.ofChange Rows.btreeOneSpec) :=
  OpenClaim.holds_of_wide 3 Try.f3 rfl rfl rfl rfl rfl rfl rfl ⟨rfl, rfl, rfl, rfl, rfl⟩ rfl rfl rfl rfl rfl (by kernel_rfl) Try.func3 (by kernel_rfl)
    (of_decide_eq_true (by kernel_rfl)) (by unfold Func.isWrapper; first | (rw [if_pos (by decide +kernel)]; kernel_rfl) | (rw [if_neg (by decide +kernel)]; exact ⟨rfl, rfl⟩))
    (fun os started H enc _ => lifted os started H enc)
end Go.Proofs.Ytcmllllbmgcnlaa.btreeOne
namespace Go.Proofs.Ytcmllllbmgcnlaa
/-- The statement, under a short name, for the claim. -/
theorem btreeOne_holds : Rows.BtreeOneSaid := btreeOne.over
#print axioms btreeOne_holds
end Go.Proofs.Ytcmllllbmgcnlaa
