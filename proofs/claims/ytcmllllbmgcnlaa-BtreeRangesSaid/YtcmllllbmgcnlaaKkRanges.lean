/- BtreeOne, walked. BtreeOrders, walked. The plain law of the tuple package, third part: covers, columns, and the reference's functions. What the reference's Cmp and Head answer. BtreeOrders, walked: two sets that are. BtreeRanges: the plain law, and the walks of what is no set. BtreeRanges, walked. The statement BtreeRanges: whatever the input, the law answers true, and the input reads as it did. Conditions: none. -/
import Derived.Test.YtcmllllbmgcnlaaK6
import Derived.Test.YtcmllllbmgcnlaaK1
import Derived.Test.YtcmllllbmgcnlaaRows
import Derived.WalkKit
import Derived.ProofKit
import Derived.OpenShut
import Derived.ShutString
import Derived.ChangeOld
import Derived.Below
import Derived.SizedLaws
import Derived.Test.YtcmllllbmgcnlaaWSized
namespace Go.Proofs.Ytcmllllbmgcnlaa.Tup
open Go.RowKit Go.Lib Go.Shelf Go.Proofs.Ytcmllllbmgcnlaa.F Go.Proofs.YtcmllllbmgcnlaaW.PrintWords Go.Proofs.YtcmllllbmgcnlaaW.PrintLast Go.Proofs.YtcmllllbmgcnlaaW.PrintMore
set_option linter.unusedVariables false
set_option linter.unusedSimpArgs false

set_option maxHeartbeats 2000000 in
set_option maxRecDepth 100000 in
theorem one_no (W : World) (A0 : Option Addr) (c0 : Nat) (o : Tp) (h0 : Sl W A0 c0 o) (ho : ¬ Rt o) (A1 : Option Addr) (c1 n : Nat) (by_ : Int) :
    Calls Try.prog 3 #[.slice A0 o.length c0, .slice A1 n c1, .int .i64 by_] W fun e w' => e = .returned (.bool true) ∧ Below W.heap.size W w' := by
  have hN1 := new_no W A0 c0 o h0 ho
  have HO := Aside0.mk ho
  have H0 := Aside0.mk h0
  clear ho h0
  go_enter Try.func3, Try.ntmps3
  go_wp2_with (first
    | (go_at_call 16; refine hN1.mono ?_; clear hN1; rintro e w1 ⟨rfl, hb1⟩; have HB1 := Aside0.mk hb1; have hN2 := new_no w1 A0 c0 o (H0.out.below hb1) HO.out; clear hb1)
    | (go_at_call 16; refine hN2.mono ?_; clear hN2; rintro e w2 ⟨rfl, hb2⟩; have HS2 := Aside0.mk ((Since.mk HB1.out).step hb2); clear hb2)
    | (go_at_call 17; refine (alive_calls w2).mono ?_; rintro e w3 ⟨rfl, hb3⟩; have HS3 := Aside0.mk (HS2.out.step hb3); clear hb3))
  go_ret
  exact ⟨rfl, HS3.out.b⟩

set_option maxHeartbeats 2000000 in
set_option maxRecDepth 100000 in
theorem one_few (W : World) (A0 : Option Addr) (c0 : Nat) (o : Tp) (h0 : Sl W A0 c0 o) (ho : Rt o) (A1 : Option Addr) (c1 n : Nat) (hn : n = 0 ∨ 1024 < n) (by_ : Int) :
    Calls Try.prog 3 #[.slice A0 o.length c0, .slice A1 n c1, .int .i64 by_] W fun e w' => e = .returned (.bool true) ∧ Below W.heap.size W w' := by
  have hN1 := new_yes W A0 c0 o h0 ho
  have HO := Aside0.mk ho
  have H0 := Aside0.mk h0
  clear ho h0
  have main : ∀ hn' : (n = 0 ∨ ((n : Int) > 1024 ∧ ¬ n = 0)), Calls Try.prog 3 #[.slice A0 o.length c0, .slice A1 n c1, .int .i64 by_] W fun e w' => e = .returned (.bool true) ∧ Below W.heap.size W w' := by
    intro hn'
    rcases hn' with rfl | ⟨h1, h2⟩
    · go_enter Try.func3, Try.ntmps3
      go_wp2_with (first
        | (go_at_call 16; refine hN1.mono ?_; clear hN1; rintro e w1 ⟨hb1, bs1, Ab1, cb1, rt1, rfl, hbs1, hS1⟩; have HB1 := Aside0.mk hb1; have hN2 := new_yes w1 A0 c0 o (H0.out.below hb1) HO.out; clear hb1 hbs1 hS1)
        | (go_at_call 16; refine hN2.mono ?_; clear hN2; rintro e w2 ⟨hb2, bs2, Ab2, cb2, rt2, rfl, hbs2, hS2⟩; have HS2 := Aside0.mk ((Since.mk HB1.out).step hb2); clear hb2 hbs2 hS2)
        | (go_at_call 17; refine (alive_calls w2).mono ?_; rintro e w3 ⟨rfl, hb3⟩; have HS3 := Aside0.mk (HS2.out.step hb3); clear hb3))
      go_ret
      exact ⟨rfl, HS3.out.b⟩
    · have h3 : ((n : Int) == 0) = false := beq_eq_false_iff_ne.2 (by omega)
      go_enter Try.func3, Try.ntmps3
      go_wp2_with (first
        | (go_at_call 16; refine hN1.mono ?_; clear hN1; rintro e w1 ⟨hb1, bs1, Ab1, cb1, rt1, rfl, hbs1, hS1⟩; have HB1 := Aside0.mk hb1; have hN2 := new_yes w1 A0 c0 o (H0.out.below hb1) HO.out; clear hb1 hbs1 hS1)
        | (go_at_call 16; refine hN2.mono ?_; clear hN2; rintro e w2 ⟨hb2, bs2, Ab2, cb2, rt2, rfl, hbs2, hS2⟩; have HS2 := Aside0.mk ((Since.mk HB1.out).step hb2); clear hb2 hbs2 hS2)
        | (go_at_call 17; refine (alive_calls w2).mono ?_; rintro e w3 ⟨rfl, hb3⟩; have HS3 := Aside0.mk (HS2.out.step hb3); clear hb3))
      go_ret
      exact ⟨rfl, HS3.out.b⟩
  exact main (by omega)

theorem tup_some {W : World} {ad : Addr} {n : Nat} {ts : List Tp} (h : Kd.C KT W (some ad) n ts) (i : Nat) (hi : i < ts.length) (x : Tp) (hx : x = ts[i]) : ∃ Ai ci, W.cell? (ad.add i) = some (.slice Ai x.length ci) ∧ Sl W Ai ci x := by
  obtain ⟨ad', Ai, ci, e, h1, h2⟩ := tup_at h i hi
  cases e
  rw [← hx] at h1 h2
  exact ⟨Ai, ci, h1, h2⟩
/-- Where the turning begins. -/
theorem turn_at (b : Int) (n : Nat) (hn : 1 ≤ n ∧ n ≤ 1024) : ∃ m : Nat, (wrap64 (b.tmod (n : Int) + (n : Int))).tmod (n : Int) = (m : Int) ∧ m < n := by
  have h1 := Int.tmod_lt_of_pos b (show (0 : Int) < (n : Int) by omega)
  have h2 : -(n : Int) < b.tmod (n : Int) := by
    have := Int.tmod_lt_of_pos (-b) (show (0 : Int) < (n : Int) by omega)
    rw [Int.neg_tmod] at this
    omega
  have hw : wrap64 (b.tmod (n : Int) + (n : Int)) = b.tmod (n : Int) + (n : Int) := by unfold wrap64; omega
  rw [hw, Int.tmod_eq_emod_of_nonneg (by omega)]
  have h3 := Int.emod_nonneg (b.tmod (n : Int) + (n : Int)) (show (n : Int) ≠ 0 by omega)
  have h4 := Int.emod_lt_of_pos (b.tmod (n : Int) + (n : Int)) (show (0 : Int) < (n : Int) by omega)
  exact ⟨((b.tmod (n : Int) + (n : Int)) % (n : Int)).toNat, by omega, by omega⟩

set_option maxHeartbeats 4000000 in
set_option maxRecDepth 100000 in
theorem one_main (W : World) (A0 : Option Addr) (c0 : Nat) (o : Tp) (h0 : Sl W A0 c0 o) (ho : Rt o) (A1 : Option Addr) (c1 n : Nat) (ls : List Tp) (hls : Kd.C KT W A1 n ls) (hc1 : n ≤ c1) (hn : 1 ≤ n ∧ n ≤ 1024) (by_ : Int) :
    Calls Try.prog 3 #[.slice A0 o.length c0, .slice A1 n c1, .int .i64 by_] W fun e w' => e = .returned (.bool true) ∧ Below W.heap.size W w' := by
  have hN1 := new_yes W A0 c0 o h0 ho
  have HO := Aside0.mk ho
  have H0 := Aside0.mk h0
  have HLS := Aside0.mk hls
  have h1 : ¬ n = 0 := by omega
  have h2 : ¬ (n : Int) > 1024 := by omega
  have h3 : ((n : Int) == 0) = false := beq_eq_false_iff_ne.2 (by omega)
  obtain ⟨m, hm, hmn⟩ := turn_at by_ n hn
  clear ho h0 hls
  go_enter Try.func3, Try.ntmps3
  go_wp2_with (first
    | (go_at_call 16; refine hN1.mono ?_; clear hN1; rintro e w1 ⟨hb1, bs1, Ab1, cb1, rt1, rfl, hbs1, hS1⟩; have HB1 := Aside0.mk hb1; have HBS1 := Aside0.mk hbs1; have HS1 := Aside0.mk hS1; have hN2 := new_yes w1 A0 c0 o (H0.out.below hb1) HO.out; clear hb1 hbs1 hS1)
    | (go_at_call 16; refine hN2.mono ?_; clear hN2; rintro e w2 ⟨hb2, bs2, Ab2, cb2, rt2, rfl, hbs2, hS2⟩; have HB2 := Aside0.mk ((Since.mk HB1.out).step hb2); have HT := Aside0.mk (two_new HS1.out ⟨hb2⟩ hbs2 hS2); have HBS2 := Aside0.mk hbs2; clear hb2 hS2)
    | (go_at_call 17; refine (alive_calls w2).mono ?_; rintro e w3 ⟨rfl, hb3⟩; have HS3 := Aside0.mk (HB2.out.step hb3); have HT3 := Aside0.mk (HT.out.since ⟨hb3⟩); clear hb3))
  go_loopg [53] n (fun gk v53 w' => ∃ i rs1 T1 rs2 T2, v53 = .int .i64 ((i : Nat) : Int) ∧ Aside0 (i + gk = n) ∧ Aside0 (Two w' bs1 bs2 Ab1 cb1 o rs1 T1 Ab2 cb2 o rs2 T2) ∧ Aside0 (T1.io = insAll o [] (ls.take i)) ∧ Aside0 (T2.io = insAll o [] ((List.range i).map fun j => ls.getD (n - 1 - (j + m) % n) [])) ∧ Aside0 (Below W.heap.size W w'))
  case atStart => exact ⟨0, rt1, _, rt2, _, rfl, ⟨by omega⟩, HT3, ⟨by rw [BT.io_mk]; rfl⟩, ⟨by rw [BT.io_mk]; rfl⟩, ⟨HS3.out.b⟩⟩
  case round =>
    obtain ⟨i, rs1, T1, rs2, T2, rfl, HI, HTW, HE1, HE2, HBW⟩ := hrel
    by_cases hi : i < n
    · have hlen : ls.length = n := HLS.out.1
      have hil : i < ls.length := by omega
      obtain ⟨q, hq⟩ : ∃ q, q = n - 1 - (i + m) % n := ⟨_, rfl⟩
      have hmod : (i + m) % n < n := Nat.mod_lt _ (by omega)
      have hql : q < ls.length := by omega
      have hii : (i : Int) < (n : Int) := by omega
      have t1 : ((i : Int) + (m : Int)).tmod (n : Int) = (((i + m) % n : Nat) : Int) := by rw [Int.tmod_eq_emod_of_nonneg (by omega)]; norm_cast
      have t2 : (n : Int) - 1 - (((i + m) % n : Nat) : Int) = (q : Int) := by omega
      obtain ⟨ad, Ai, ci, rfl, hcell, sl⟩ := tup_at (Kd.C_below HLS.out HBW.out) i hil
      have t3 : wrap64 ((n : Int) - 1 - ((i : Int) + (m : Int)) % (n : Int)) = (q : Int) := by
        have e : ((i : Int) + (m : Int)) % (n : Int) = (((i + m) % n : Nat) : Int) := by norm_cast
        rw [e]; unfold wrap64; omega
      have hw1 : IntKind.i64.wrap ((n : Int) - 1) = (n : Int) - 1 := by rw [IntKind.wrap_i64]; omega
      have hw2 : IntKind.i64.wrap ((i : Int) + (m : Int)) = (i : Int) + (m : Int) := by rw [IntKind.wrap_i64]; omega
      have hw3 : IntKind.i64.wrap ((n : Int) - 1 - (((i + m) % n : Nat) : Int)) = (q : Int) := by rw [IntKind.wrap_i64]; omega
      obtain ⟨x, hx⟩ : ∃ x, x = ls[i] := ⟨_, rfl⟩
      obtain ⟨y, hy⟩ : ∃ y, y = ls[q] := ⟨_, rfl⟩
      rw [← hx] at hcell sl
      have HXY := Aside0.mk (And.intro hx hy)
      have h1c := two_ins wr HTW.out Ai ci x sl
      have HQL := Aside0.mk hql
      have HIL := Aside0.mk hil
      have HQE := Aside0.mk hq
      clear hx hy hlen hmod hq sl
      go_wp2_with (first
        | (go_at_call 18; refine h1c.mono ?_; clear h1c; rintro e w4 ⟨rs3, T3, rfl, hT4, hio3, hk4⟩; have HB4 := Aside0.mk (kept_below HBW.out hk4 HBS1.out); have HIO3 := Aside0.mk hio3; obtain ⟨Aq, cq, hcell2, sl2⟩ := tup_some (Kd.C_below HLS.out HB4.out) q HQL.out y HXY.out.2; have h2c := two_ins2 w4 hT4 Aq cq y sl2; clear hT4 hio3 hk4 sl2)
        | (go_at_call 18; refine h2c.mono ?_; clear h2c; rintro e w5 ⟨rs4, T4, rfl, hT5, hio4, hk5⟩; have HB5 := Aside0.mk (kept_below HB4.out hk5 (Nat.le_trans HB1.out.size HBS2.out)); have HT5 := Aside0.mk hT5; have HIO4 := Aside0.mk hio4; clear hT5 hio4 hk5))
      obtain ⟨k2, hk2⟩ : ∃ k2, k2 = gk - 1 := ⟨_, rfl⟩
      go_roundg k2
      case measure => have := HI.out; omega
      case rel => exact ⟨i + 1, rs3, T3, rs4, T4, by go_num, ⟨by have := HI.out; omega⟩, HT5, ⟨by
        rw [HIO3.out, HE1.out, ← insAll_snoc, HXY.out.1, List.take_add_one, List.getElem?_eq_getElem HIL.out]; rfl⟩, ⟨by
        rw [HIO4.out, HE2.out, ← insAll_snoc, List.range_succ, List.map_append]; have hq := HQE.out; rw [HXY.out.2]; simp [← hq, HQL.out]⟩, HB5⟩
    · obtain rfl : i = n := by have := HI.out; omega
      have hlen : ls.length = i := HLS.out.1
      have heq : T1.io = T2.io := by
        rw [HE1.out, HE2.out]
        refine insAll_same HO.out _ _ (by simp; omega) (by simp; omega) fun a => ?_
        rw [List.take_of_length_le (by omega)]
        constructor
        · intro ha
          obtain ⟨j, hj, rfl⟩ := List.getElem_of_mem ha
          refine List.mem_map.2 ⟨(i - 1 - j + (i - m)) % i, List.mem_range.2 (Nat.mod_lt _ (by omega)), ?_⟩
          have e1 : ((i - 1 - j + (i - m)) % i + m) % i = i - 1 - j := by
            rw [Nat.mod_add_mod, show i - 1 - j + (i - m) + m = (i - 1 - j) + i by omega, Nat.add_mod_right, Nat.mod_eq_of_lt (by omega)]
          rw [e1, show i - 1 - (i - 1 - j) = j by omega]
          simp [hj]
        · intro ha
          obtain ⟨j, hj, rfl⟩ := List.mem_map.1 ha
          have hj2 := Nat.mod_lt (j + m) (show 0 < i by omega)
          have hlt : i - 1 - (j + m) % i < ls.length := by omega
          simp [hlt]
      have HEQ := Aside0.mk heq
      have HT1 := Aside0.mk HTW.out.s1
      have HT2 := Aside0.mk HTW.out.s2
      have hL1 := len_calls wr bs1 HTW.out.s1
      have hL2 := len_calls wr bs2 HTW.out.s2
      rw [← heq] at hL2
      obtain ⟨L, hL⟩ : ∃ L, L = T1.io := ⟨_, rfl⟩
      rw [← hL] at hL1 hL2
      have HL := Aside0.mk hL
      have hA1 := all_calls wr (.pointer (some ⟨bs1, 0, none⟩)) ⟨_, rfl⟩
      clear heq hL hlen hm
      go_wp2_with (first
        | (go_at_call 19; refine hL1.mono ?_; clear hL1; rintro e w6 ⟨rfl, rfl⟩)
        | (go_at_call 19; refine hL2.mono ?_; clear hL2; rintro e w6 ⟨rfl, rfl⟩)
        | (go_at_call 22; refine hA1.mono ?_; clear hA1; rintro e w7 ⟨rfl, rfl⟩; have HS7 := Aside0.mk (Since.alloc (Since.refl wr) (.cells #[.pointer (some ⟨bs1, 0, none⟩)] 24)); have hLs := listA_calls _ wr.heap.size bs1 (HT1.out.since HS7.out) ((cell_of_heap (heap_alloc_new wr (.cells #[.pointer (some ⟨bs1, 0, none⟩)] 24)) 0).trans rfl); rw [← HL.out] at hLs)
        | (go_at_call 21; refine hLs.mono ?_; clear hLs; rintro e w8 ⟨A8, c8, rfl, hc8, hF8, hb8⟩; have HS8 := Aside0.mk (HS7.out.step hb8); have HF8 := Aside0.mk hF8; have hA2 := all_calls w8 (.pointer (some ⟨bs2, 0, none⟩)) ⟨_, rfl⟩; clear hF8 hb8)
        | (go_at_call 22; refine hA2.mono ?_; clear hA2; rintro e w9 ⟨rfl, rfl⟩; have HS9 := Aside0.mk (Since.alloc HS8.out (.cells #[.pointer (some ⟨bs2, 0, none⟩)] 24)); have hLt := listA_calls _ w8.heap.size bs2 (HT2.out.since HS9.out) ((cell_of_heap (heap_alloc_new w8 (.cells #[.pointer (some ⟨bs2, 0, none⟩)] 24)) 0).trans rfl); rw [← HEQ.out, ← HL.out] at hLt)
        | (go_at_call 21; refine hLt.mono ?_; clear hLt; rintro e w10 ⟨A10, c10, rfl, hc10, hF10, hb10⟩; have HS10 := Aside0.mk (HS9.out.step hb10); have HF10 := Aside0.mk hF10; have HB10 := Aside0.mk hb10; have hSm := same2_calls A8 c8 L A10 c10 L w10 (Kd.F_now (Kd.F_below (Kd.F_below HF8.out (below_alloc (Below.refl _ _) _)) HB10.out)) hc8 (Kd.F_now HF10.out) hc10 8 (fun t ht => by rw [HL.out] at ht; have := (HT1.out.fit t ht).1; have := HT1.out.rto.1; omega) (by omega) (by rw [HL.out]; have := HT1.out.le; omega); clear hF10 hb10)
        | (go_at_call 20; refine hSm.mono ?_; clear hSm; rintro e w11 ⟨rfl, hd11⟩; have HS11 := Aside0.mk (HS10.out.trans (Since.ofDrawn hd11)); clear hd11))
      go_ret
      exact ⟨by simp, below_then HBW.out HBW.out.size HS11.out.b⟩

theorem one_law_calls {W : World} (A0 : Option Addr) (c0 : Nat) (o : Tp) (h0 : Sl W A0 c0 o) (A1 : Option Addr) (c1 : Nat) (ls : List Tp) (h1 : Rs W A1 c1 ls) (by_ : Int) (hw : (Lit.int .i64 by_).wf = true) (W' : World) (e : W' = W) :
    Calls Try.prog 3 #[.slice A0 o.length c0, .slice A1 ls.length c1, .int .i64 by_] W' fun e w' => e = .returned (.bool true) ∧ Below W.heap.size W w' := by
  subst e
  by_cases ho : Rt o
  · by_cases hn : ls.length = 0 ∨ 1024 < ls.length
    · exact one_few W' A0 c0 o h0 ho A1 c1 _ hn by_
    · exact one_main W' A0 c0 o h0 ho A1 c1 _ ls h1.C h1.le (by omega) by_
  · exact one_no W' A0 c0 o h0 ho A1 c1 _ by_

end Go.Proofs.Ytcmllllbmgcnlaa.Tup

namespace Go.Proofs.Ytcmllllbmgcnlaa.Tup
open Go.RowKit Go.Lib Go.Shelf Go.Proofs.Ytcmllllbmgcnlaa.F Go.Proofs.YtcmllllbmgcnlaaW.PrintWords Go.Proofs.YtcmllllbmgcnlaaW.PrintLast Go.Proofs.YtcmllllbmgcnlaaW.PrintMore
set_option linter.unusedVariables false
set_option linter.unusedSimpArgs false

/-- btree.New, its error's number alone. -/
theorem new_code (W : World) (A0 : Option Addr) (c0 : Nat) (o : Tp) (h0 : Sl W A0 c0 o) (k : Int) (hk : k = if Rt o then 0 else 1) :
    Calls Try.prog 16 #[.slice A0 o.length c0] W fun e w' => ∃ p, e = .returned (.tuple #[.pointer p, .int .i64 k]) ∧ Below W.heap.size W w' := by
  by_cases h : Rt o
  · rw [if_pos h] at hk
    subst hk
    refine (new_yes W A0 c0 o h0 h).mono ?_
    rintro e w' ⟨hb, bs, A, c, rt, rfl, _⟩
    exact ⟨_, rfl, hb⟩
  · rw [if_neg h] at hk
    subst hk
    refine (new_no W A0 c0 o h0 h).mono ?_
    rintro e w' ⟨rfl, hb⟩
    exact ⟨_, rfl, hb⟩

set_option maxHeartbeats 2000000 in
set_option maxRecDepth 100000 in
theorem orders_no1 (W : World) (A0 : Option Addr) (c0 : Nat) (a : Tp) (h0 : Sl W A0 c0 a) (A1 : Option Addr) (c1 : Nat) (b : Tp) (h1 : Sl W A1 c1 b) (A2 : Option Addr) (c2 n : Nat) (ho : ¬ Rt a) :
    Calls Try.prog 4 #[.slice A0 a.length c0, .slice A1 b.length c1, .slice A2 n c2] W fun e w' => e = .returned (.bool true) ∧ Below W.heap.size W w' := by
  have hN1 := new_code W A0 c0 a h0 1 (by rw [if_neg ho])
  obtain ⟨k2, hk2⟩ : ∃ k2 : Int, k2 = if Rt b then 0 else 1 := ⟨_, rfl⟩
  have HK2 := Aside0.mk hk2
  have H1 := Aside0.mk h1
  clear ho h0 h1 hk2
  go_enter Try.func4, Try.ntmps4
  go_wp2_with (first
    | (go_at_call 16; refine hN1.mono ?_; clear hN1; rintro e w1 ⟨p1, rfl, hb1⟩; have HB1 := Aside0.mk hb1; have hN2 := new_code w1 A1 c1 b (H1.out.below hb1) k2 HK2.out; clear hb1)
    | (go_at_call 16; refine hN2.mono ?_; clear hN2; rintro e w2 ⟨p2, rfl, hb2⟩; have HS2 := Aside0.mk ((Since.mk HB1.out).step hb2); clear hb2)
    | (go_at_call 17; refine (alive_calls w2).mono ?_; rintro e w3 ⟨rfl, hb3⟩; have HS3 := Aside0.mk (HS2.out.step hb3); clear hb3))
  go_ret
  exact ⟨rfl, HS3.out.b⟩

set_option maxHeartbeats 2000000 in
set_option maxRecDepth 100000 in
theorem orders_no2 (W : World) (A0 : Option Addr) (c0 : Nat) (a : Tp) (h0 : Sl W A0 c0 a) (A1 : Option Addr) (c1 : Nat) (b : Tp) (h1 : Sl W A1 c1 b) (A2 : Option Addr) (c2 n : Nat) (ha : Rt a) (ho : ¬ Rt b) :
    Calls Try.prog 4 #[.slice A0 a.length c0, .slice A1 b.length c1, .slice A2 n c2] W fun e w' => e = .returned (.bool true) ∧ Below W.heap.size W w' := by
  have hN1 := new_code W A0 c0 a h0 0 (by rw [if_pos ha])
  have HO := Aside0.mk ho
  have H1 := Aside0.mk h1
  clear ho h0 h1 ha
  go_enter Try.func4, Try.ntmps4
  go_wp2_with (first
    | (go_at_call 16; refine hN1.mono ?_; clear hN1; rintro e w1 ⟨p1, rfl, hb1⟩; have HB1 := Aside0.mk hb1; have hN2 := new_code w1 A1 c1 b (H1.out.below hb1) 1 (by rw [if_neg HO.out]); clear hb1)
    | (go_at_call 16; refine hN2.mono ?_; clear hN2; rintro e w2 ⟨p2, rfl, hb2⟩; have HS2 := Aside0.mk ((Since.mk HB1.out).step hb2); clear hb2)
    | (go_at_call 17; refine (alive_calls w2).mono ?_; rintro e w3 ⟨rfl, hb3⟩; have HS3 := Aside0.mk (HS2.out.step hb3); clear hb3))
  go_ret
  exact ⟨rfl, HS3.out.b⟩

set_option maxHeartbeats 2000000 in
set_option maxRecDepth 100000 in
theorem orders_len (W : World) (A0 : Option Addr) (c0 : Nat) (a : Tp) (h0 : Sl W A0 c0 a) (A1 : Option Addr) (c1 : Nat) (b : Tp) (h1 : Sl W A1 c1 b) (A2 : Option Addr) (c2 n : Nat) (ha : Rt a) (hb : Rt b) (hl : a.length ≠ b.length) :
    Calls Try.prog 4 #[.slice A0 a.length c0, .slice A1 b.length c1, .slice A2 n c2] W fun e w' => e = .returned (.bool true) ∧ Below W.heap.size W w' := by
  have hN1 := new_code W A0 c0 a h0 0 (by rw [if_pos ha])
  have HO := Aside0.mk hb
  have H1 := Aside0.mk h1
  have e1 : (a.length == b.length) = false := beq_eq_false_iff_ne.2 hl
  have e2 : (a.length != b.length) = true := bne_iff_ne.2 hl
  have e3 : ((a.length : Int) == (b.length : Int)) = false := beq_eq_false_iff_ne.2 (by omega)
  have e4 : ((a.length : Int) != (b.length : Int)) = true := bne_iff_ne.2 (by omega)
  clear h0 h1 ha hb hl
  go_enter Try.func4, Try.ntmps4
  go_wp2_with (first
    | (go_at_call 16; refine hN1.mono ?_; clear hN1; rintro e w1 ⟨p1, rfl, hb1⟩; have HB1 := Aside0.mk hb1; have hN2 := new_code w1 A1 c1 b (H1.out.below hb1) 0 (by rw [if_pos HO.out]); clear hb1)
    | (go_at_call 16; refine hN2.mono ?_; clear hN2; rintro e w2 ⟨p2, rfl, hb2⟩; have HS2 := Aside0.mk ((Since.mk HB1.out).step hb2); clear hb2)
    | (go_at_call 17; refine (alive_calls w2).mono ?_; rintro e w3 ⟨rfl, hb3⟩; have HS3 := Aside0.mk (HS2.out.step hb3); clear hb3))
  go_ret
  exact ⟨rfl, HS3.out.b⟩

set_option maxHeartbeats 2000000 in
set_option maxRecDepth 100000 in
theorem orders_many (W : World) (A0 : Option Addr) (c0 : Nat) (a : Tp) (h0 : Sl W A0 c0 a) (A1 : Option Addr) (c1 : Nat) (b : Tp) (h1 : Sl W A1 c1 b) (A2 : Option Addr) (c2 n : Nat) (ha : Rt a) (hb : Rt b) (hl : a.length = b.length) (hn : 2000 < n) :
    Calls Try.prog 4 #[.slice A0 a.length c0, .slice A1 b.length c1, .slice A2 n c2] W fun e w' => e = .returned (.bool true) ∧ Below W.heap.size W w' := by
  have hN1 := new_code W A0 c0 a h0 0 (by rw [if_pos ha])
  have HO := Aside0.mk hb
  have H1 := Aside0.mk h1
  have e1 : (a.length == b.length) = true := beq_iff_eq.2 hl
  have e2 : (a.length != b.length) = false := by simp [hl]
  have e3 : ((a.length : Int) != (b.length : Int)) = false := by simp [hl]
  have e5 : decide ((n : Int) > 2000) = true := decide_eq_true (by omega)
  have e6 : (n : Int) > 2000 := by omega
  clear h0 h1 ha hb hl hn
  go_enter Try.func4, Try.ntmps4
  go_wp2_with (first
    | (go_at_call 16; refine hN1.mono ?_; clear hN1; rintro e w1 ⟨p1, rfl, hb1⟩; have HB1 := Aside0.mk hb1; have hN2 := new_code w1 A1 c1 b (H1.out.below hb1) 0 (by rw [if_pos HO.out]); clear hb1)
    | (go_at_call 16; refine hN2.mono ?_; clear hN2; rintro e w2 ⟨p2, rfl, hb2⟩; have HS2 := Aside0.mk ((Since.mk HB1.out).step hb2); clear hb2)
    | (go_at_call 17; refine (alive_calls w2).mono ?_; rintro e w3 ⟨rfl, hb3⟩; have HS3 := Aside0.mk (HS2.out.step hb3); clear hb3))
  go_ret
  exact ⟨rfl, HS3.out.b⟩

/-- The same tuples, in whatever order. -/
structure Like (L M : List Tp) : Prop where
  len : L.length = M.length
  mem : ∀ t, t ∈ L ↔ t ∈ M
theorem like_ans {a b : Tp} (hl : a.length = b.length) {L M : List Tp} (h : Like L M) (t : Tp) : insAns a L t = insAns b M t := by
  unfold insAns
  simp only [hl, h.len, h.mem]
theorem like_to {a b : Tp} (hl : a.length = b.length) {L M : List Tp} (h : Like L M) (t : Tp) : Like (insTo a L t) (insTo b M t) := by
  unfold insTo
  rw [like_ans hl h t]
  split
  · exact ⟨by rw [insO_len, insO_len, h.len], fun x => by rw [insO_mem, insO_mem, h.mem]⟩
  · exact h

end Go.Proofs.Ytcmllllbmgcnlaa.Tup

namespace Go.Proofs.Ytcmllllbmgcnlaa.Tup
open Go.RowKit Go.Proofs.Ytcmllllbmgcnlaa.F Go.Proofs.YtcmllllbmgcnlaaW.PrintWords Go.Proofs.YtcmllllbmgcnlaaW.PrintLast Go.Proofs.YtcmllllbmgcnlaaW.PrintMore
set_option linter.unusedVariables false
set_option linter.unusedSimpArgs false

/-! ### sets of columns as numbers -/
/-- The set of a list of columns, onto a set. -/
def orL : List Int → Nat → Nat
  | [], m => m
  | c :: o, m => orL o (m ||| 2 ^ c.toNat)
/-- How many columns a set below 256 has. -/
def popN (m : Nat) : Nat := ((List.range 8).filter fun j => m.testBit j).length

theorem orL_lt (o : List Int) (hr : ∀ c ∈ o, 0 ≤ c ∧ c < 8) (m : Nat) (hm : m < 256) : orL o m < 256 := by
  induction o generalizing m with
  | nil => exact hm
  | cons c o ih =>
    have h := hr c (by simp)
    exact ih (fun x hx => hr x (by simp [hx])) _ (set_lt m hm c.toNat (by omega))
/-- What Cover answers. -/
def coverS (o : List Int) (cols : Int) : Int × Bool :=
  if Rt o ∧ 0 ≤ cols ∧ cols < 2 ^ o.length then
    if orL (o.take (popN cols.toNat)) 0 = cols.toNat then (((popN cols.toNat : Nat) : Int), true) else (0, false)
  else (0, false)

theorem shr_zero (cols : Int) (h0 : 0 ≤ cols) (n : Nat) (hn : n ≤ 8) : (shr .i64 cols (n : Int) != 0) = !decide (cols < 2 ^ n) := by
  have hb : min ((n : Int)).toNat IntKind.i64.bits = n := by
    rw [Int.toNat_natCast]; have : IntKind.i64.bits = 64 := rfl; omega
  unfold shr
  rw [hb]
  have hp : (0 : Int) < 2 ^ n := Int.pow_pos (by decide)
  by_cases h : cols < 2 ^ n
  · rw [Int.ediv_eq_zero_of_lt h0 h]; simp [h]
  · have : cols / 2 ^ n ≠ 0 := by
      intro e
      have h1 := Int.lt_ediv_add_one_mul_self cols hp
      rw [e] at h1; simp at h1; exact h h1
    simp [h, this]

theorem pow_le_8 (n : Nat) (h : n ≤ 8) : (2 : Int) ^ n ≤ 256 := by
  have h1 : (2 : Nat) ^ n ≤ 256 := Nat.pow_le_pow_right (n := 2) (i := n) (j := 8) (by decide) h
  have e : ((2 ^ n : Nat) : Int) = (2 : Int) ^ n := by simp
  omega

/-! ### the reference -/
theorem has_loop (l : List Int) (x : Int) (hn : l.length ≤ 9223372036854775806) : ∀ (rest pre : List Int) (k : Nat), l = pre ++ rest → rest.length < k →
    vestryref04_Has.l0 k l x (pre.length : Int) = some (decide (x ∈ rest)) := by
  intro rest
  induction rest with
  | nil =>
    intro pre k e hk
    obtain ⟨k, rfl⟩ : ∃ q, k = q + 1 := ⟨k - 1, by omega⟩
    have e' : pre = l := by simpa using e.symm
    subst e'
    simp only [vestryref04_Has.l0]
    rw [if_neg (by omega)]; simp
  | cons c rest ih =>
    intro pre k e hk
    simp only [List.length_cons] at hk
    obtain ⟨k, rfl⟩ : ∃ q, k = q + 1 := ⟨k - 1, by omega⟩
    have hl : l.length = pre.length + (rest.length + 1) := by rw [e]; simp
    have hat := rd_at e
    simp only [vestryref04_Has.l0]
    rw [if_pos (by omega), if_pos (by omega), hat]
    by_cases h : c = x
    · rw [if_pos h]; simp [h]
    · rw [if_neg h, wrap_nat _ (by omega)]
      have key := ih (pre ++ [c]) k (by rw [e]; simp) (by omega)
      simp only [List.length_append, List.length_cons, List.length_nil, Nat.zero_add] at key
      rw [key]
      simp [show ¬ x = c from fun e => h e.symm]
theorem has_is (k : Nat) (l : List Int) (x : Int) (hn : l.length ≤ 9223372036854775806) (hk : l.length < k) : vestryref04_Has.f k l x = some (decide (x ∈ l)) := by
  have := has_loop l x hn l [] k (by simp) hk
  simpa [vestryref04_Has.f] using this

theorem rright_loop (o : List Int) (hn : o.length ≤ 9223372036854775806) : ∀ (d i k : Nat), o.length - i = d → i ≤ o.length → o.length + d + 1 < k → (∀ j : Nat, j < i → (j : Int) ∈ o) →
    vestryref04_Right.l0 k o (i : Int) = some (decide (Rt o)) := by
  intro d
  induction d with
  | zero =>
    intro i k hd hi hk h
    obtain ⟨k, rfl⟩ : ∃ q, k = q + 1 := ⟨k - 1, by omega⟩
    simp only [vestryref04_Right.l0]
    rw [if_neg (by omega)]
    congr 1
    by_cases h8 : o.length ≤ 8
    · rw [decide_eq_true (by omega : (o.length : Int) ≤ 8), decide_eq_true (Rt.of_all h8 (fun j hj => h j (by omega)))]
    · rw [decide_eq_false (by omega : ¬ (o.length : Int) ≤ 8), decide_eq_false (fun hR : Rt o => h8 hR.1)]
  | succ d ih =>
    intro i k hd hi hk h
    obtain ⟨k, rfl⟩ : ∃ q, k = q + 1 := ⟨k - 1, by omega⟩
    simp only [vestryref04_Right.l0]
    rw [if_pos (by omega), has_is k o i hn (by omega)]
    simp only [Option.bind_some, decide_eq_true_eq]
    by_cases hin : (i : Int) ∈ o
    · rw [if_pos hin, wrap_nat _ (by omega)]
      refine ih (i + 1) k (by omega) (by omega) (by omega) (fun j hj => ?_)
      by_cases hji : j = i
      · subst hji; exact hin
      · exact h j (by omega)
    · rw [if_neg hin, decide_eq_false (fun hR : Rt o => hin (hR.all _ (by omega) (by omega)))]
theorem rright_is (k : Nat) (o : List Int) (hn : o.length ≤ 9223372036854775806) (hk : 2 * o.length + 1 < k) : vestryref04_Right.f k o = some (decide (Rt o)) :=
  rright_loop o hn o.length 0 k (by omega) (by omega) (by omega) (fun j hj => by omega)

theorem fits_is (k : Nat) (o a b : List Int) (hn : o.length ≤ 9223372036854775806) (hk : 2 * o.length + 1 < k) : vestryref04_fits.f k o a b = some (decide (Fit o a ∧ Fit o b)) := by
  unfold vestryref04_fits.f
  rw [rright_is k o hn hk]
  simp only [Option.bind_some, decide_eq_true_eq]
  by_cases hR : Rt o
  · rw [if_pos hR]
    by_cases h1 : (a.length : Int) = (o.length : Int)
    · rw [if_pos h1]
      have h1' : a.length = o.length := by omega
      by_cases h2 : b.length = o.length
      · simp [Fit, h1', h2, hR]
      · simp [Fit, h1', h2, hR]; omega
    · rw [if_neg h1, decide_eq_false (fun h => h1 (by rw [h.1.1]))]
  · rw [if_neg hR, decide_eq_false (fun h => hR h.1.2)]

theorem rcmp_loop (o a b : List Int) (ho : o.length ≤ 8) (hr : ∀ c ∈ o, 0 ≤ c ∧ c < (o.length : Int)) (ha : a.length = o.length) (hb : b.length = o.length) : ∀ (rest pre : List Int) (k : Nat), o = pre ++ rest → rest.length < k →
    vestryref04_Cmp.l0 k o a b (pre.length : Int) = some (cmpL rest a b) := by
  intro rest
  induction rest with
  | nil =>
    intro pre k e hk
    obtain ⟨k, rfl⟩ : ∃ q, k = q + 1 := ⟨k - 1, by omega⟩
    have e' : pre = o := by simpa using e.symm
    subst e'
    simp only [vestryref04_Cmp.l0]
    rw [if_neg (by omega)]; rfl
  | cons c rest ih =>
    intro pre k e hk
    simp only [List.length_cons] at hk
    obtain ⟨k, rfl⟩ : ∃ q, k = q + 1 := ⟨k - 1, by omega⟩
    have hl : o.length = pre.length + (rest.length + 1) := by rw [e]; simp
    have hat := rd_at e
    have hmem := hr c (by rw [e]; simp)
    simp only [vestryref04_Cmp.l0]
    rw [if_pos (by omega), if_pos (by omega), hat, if_pos (by omega), if_pos (by omega), if_pos (by omega)]
    simp only [cmpL]
    by_cases h1 : rd a c < rd b c
    · rw [if_pos h1, if_pos h1]
    rw [if_neg h1, if_neg h1]
    by_cases h2 : rd a c > rd b c
    · rw [if_pos h2, if_pos h2]
    rw [if_neg h2, if_neg h2, wrap_nat _ (by omega)]
    have key := ih (pre ++ [c]) k (by rw [e]; simp) (by omega)
    simpa using key
theorem rcmp_is (k : Nat) (o a b : List Int) (hn : o.length ≤ 9223372036854775806) (hk : 2 * o.length + 1 < k) : vestryref04_Cmp.f k o a b = some (cmpS o a b) := by
  unfold vestryref04_Cmp.f cmpS
  rw [fits_is k o a b hn hk]
  simp only [Option.bind_some, decide_eq_true_eq]
  by_cases h : Fit o a ∧ Fit o b
  · rw [if_pos h, if_pos h]
    have := rcmp_loop o a b h.1.2.1 h.1.2.2.1 h.1.1 h.2.1 o [] k (by simp) (by omega)
    simpa using this
  · rw [if_neg h, if_neg h]

theorem rhead_loop (o a b : List Int) (z : Int) (ho : o.length ≤ 8) (hr : ∀ c ∈ o, 0 ≤ c ∧ c < (o.length : Int)) (ha : a.length = o.length) (hb : b.length = o.length) : ∀ (rest pre : List Int) (k : Nat), o = pre ++ rest → 2 * rest.length + 1 < k →
    vestryref04_Head.l0 k o z a b (pre.length : Int) = some (headL (z - pre.length).toNat rest a b) := by
  intro rest
  induction rest with
  | nil =>
    intro pre k e hk
    obtain ⟨k, rfl⟩ : ∃ q, k = q + 2 := ⟨k - 2, by simp at hk; omega⟩
    have e' : pre = o := by simpa using e.symm
    subst e'
    simp only [vestryref04_Head.l0]
    rw [if_neg (by omega)]
    simp only [vestryref04_Head.j1]
    rw [if_neg (by decide)]
    cases (z - (pre.length : Int)).toNat <;> rfl
  | cons c rest ih =>
    intro pre k e hk
    simp only [List.length_cons] at hk
    obtain ⟨k, rfl⟩ : ∃ q, k = q + 2 := ⟨k - 2, by omega⟩
    have hl : o.length = pre.length + (rest.length + 1) := by rw [e]; simp
    have hat := rd_at e
    have hmem := hr c (by rw [e]; simp)
    simp only [vestryref04_Head.l0]
    rw [if_pos (by omega)]
    simp only [vestryref04_Head.j1, decide_eq_true_eq]
    by_cases hz : (pre.length : Int) < z
    · obtain ⟨q, hq⟩ : ∃ q, (z - (pre.length : Int)).toNat = q + 1 := ⟨(z - (pre.length : Int)).toNat - 1, by omega⟩
      rw [if_pos hz, if_pos (by omega), if_pos (by omega), hat, if_pos (by omega), if_pos (by omega), if_pos (by omega), hq]
      simp only [headL]
      by_cases h : rd a c = rd b c
      · rw [if_pos h, wrap_nat _ (by omega)]
        have key := ih (pre ++ [c]) k (by rw [e]; simp) (by omega)
        have hq2 : (z - ((pre ++ [c]).length : Int)).toNat = q := by simp; omega
        rw [hq2] at key
        simp only [List.length_append, List.length_cons, List.length_nil, Nat.zero_add] at key
        rw [key]; simp [h]
      · rw [if_neg h]; simp [h]
    · rw [if_neg hz]
      have : (z - (pre.length : Int)).toNat = 0 := by omega
      rw [this]; rfl
theorem rhead_is (k : Nat) (o : List Int) (z : Int) (a b : List Int) (hn : o.length ≤ 9223372036854775806) (hk : 2 * o.length + 1 < k) : vestryref04_Head.f k o z a b = some (headS o z a b) := by
  unfold vestryref04_Head.f headS
  rw [fits_is k o a b hn hk]
  simp only [Option.bind_some, decide_eq_true_eq]
  by_cases h : Fit o a ∧ Fit o b
  · rw [if_pos h, decide_eq_true h]
    have := rhead_loop o a b z h.1.2.1 h.1.2.2.1 h.1.1 h.2.1 o [] k (by simp) (by omega)
    simpa using this
  · rw [if_neg h, decide_eq_false h]; rfl

/-! ### the reference's Cover -/
/-! ### columns -/
def colsS (l : List Int) : Int × Int := if ∀ c ∈ l, 0 ≤ c ∧ c < 8 then (((orL l 0 : Nat) : Int), 0) else (0, 1)
end Go.Proofs.Ytcmllllbmgcnlaa.Tup

namespace Go.Proofs.Ytcmllllbmgcnlaa.Tup
open Go.RowKit Go.Proofs.Ytcmllllbmgcnlaa.F Go.Proofs.YtcmllllbmgcnlaaW.PrintWords Go.Proofs.YtcmllllbmgcnlaaW.PrintLast Go.Proofs.YtcmllllbmgcnlaaW.PrintMore
set_option linter.unusedVariables false
set_option linter.unusedSimpArgs false

theorem rcmp_calls (A0 : Option Addr) (c0 : Nat) (o : List Int) (A1 : Option Addr) (c1 : Nat) (a : List Int) (A2 : Option Addr) (c2 : Nat) (b : List Int) (w : World) (h0 : Sl w A0 c0 o) (h1 : Sl w A1 c1 a) (h2 : Sl w A2 c2 b) (hn : o.length ≤ 9223372036854775806) :
    Calls Try.prog 24 #[.slice A0 o.length c0, .slice A1 a.length c1, .slice A2 b.length c2] w fun e w' => e = .returned (.int .i64 (cmpS o a b)) ∧ Drawn0 w w' :=
  vestryref04_Cmp.calls (2 * o.length + 2) _ _ o _ _ a _ _ b _ w h0.C h0.le h1.C h1.le h2.C h2.le (rcmp_is _ o a b hn (by omega))
theorem rhead_calls (A0 : Option Addr) (c0 : Nat) (o : List Int) (k : Int) (A1 : Option Addr) (c1 : Nat) (a : List Int) (A2 : Option Addr) (c2 : Nat) (b : List Int) (w : World) (h0 : Sl w A0 c0 o) (h1 : Sl w A1 c1 a) (h2 : Sl w A2 c2 b) (hn : o.length ≤ 9223372036854775806) :
    Calls Try.prog 31 #[.slice A0 o.length c0, .int .i64 k, .slice A1 a.length c1, .slice A2 b.length c2] w fun e w' => e = .returned (.bool (headS o k a b)) ∧ Drawn0 w w' :=
  vestryref04_Head.calls (2 * o.length + 2) _ _ o _ _ _ a _ _ b _ w h0.C h0.le h1.C h1.le h2.C h2.le (rhead_is _ o k a b hn (by omega))
theorem rright_calls (A0 : Option Addr) (c0 : Nat) (o : List Int) (w : World) (h0 : Sl w A0 c0 o) (hn : o.length ≤ 9223372036854775806) :
    Calls Try.prog 43 #[.slice A0 o.length c0] w fun e w' => e = .returned (.bool (decide (Rt o))) ∧ Drawn0 w w' :=
  vestryref04_Right.calls (2 * o.length + 2) _ _ o _ w h0.C h0.le (rright_is _ o hn (by omega))

end Go.Proofs.Ytcmllllbmgcnlaa.Tup

namespace Go.Proofs.Ytcmllllbmgcnlaa.Tup
open Go.RowKit Go.Lib Go.Shelf Go.Proofs.Ytcmllllbmgcnlaa.F Go.Proofs.YtcmllllbmgcnlaaW.PrintWords Go.Proofs.YtcmllllbmgcnlaaW.PrintLast Go.Proofs.YtcmllllbmgcnlaaW.PrintMore
set_option linter.unusedVariables false
set_option linter.unusedSimpArgs false

/-- Insert into the first of two, its answer by name. -/
theorem two_insA (W : World) {b1 b2 : Nat} {A1 : Option Addr} {c1 : Nat} {o1 : Tp} {r1 : Nat} {T1 : BT} {A2 : Option Addr} {c2 : Nat} {o2 : Tp} {r2 : Nat} {T2 : BT} (h : Two W b1 b2 A1 c1 o1 r1 T1 A2 c2 o2 r2 T2) (At : Option Addr) (ct : Nat) (t : Tp) (st : Sl W At ct t) (r : Bool) (k : Int) (hr : (insAns o1 T1.io t).1 = r) (hk : ((insAns o1 T1.io t).2 : Int) = k) :
    Calls Try.prog 18 #[.pointer (some ⟨b1, 0, none⟩), .slice At t.length ct] W fun e w' => e = .returned (.tuple #[.bool r, .int .i64 k]) ∧ ∃ r T, Two w' b1 b2 A1 c1 o1 r T A2 c2 o2 r2 T2 ∧ T.io = insTo o1 T1.io t ∧ Kept1 b1 W w' := by
  subst hr hk
  refine (two_ins W h At ct t st).mono ?_
  rintro e w' ⟨r, T, rfl, h⟩
  exact ⟨rfl, r, T, h⟩
theorem two_insB (W : World) {b1 b2 : Nat} {A1 : Option Addr} {c1 : Nat} {o1 : Tp} {r1 : Nat} {T1 : BT} {A2 : Option Addr} {c2 : Nat} {o2 : Tp} {r2 : Nat} {T2 : BT} (h : Two W b1 b2 A1 c1 o1 r1 T1 A2 c2 o2 r2 T2) (At : Option Addr) (ct : Nat) (t : Tp) (st : Sl W At ct t) (r : Bool) (k : Int) (hr : (insAns o2 T2.io t).1 = r) (hk : ((insAns o2 T2.io t).2 : Int) = k) :
    Calls Try.prog 18 #[.pointer (some ⟨b2, 0, none⟩), .slice At t.length ct] W fun e w' => e = .returned (.tuple #[.bool r, .int .i64 k]) ∧ ∃ r T, Two w' b1 b2 A1 c1 o1 r1 T1 A2 c2 o2 r T ∧ T.io = insTo o2 T2.io t ∧ Kept1 b2 W w' := by
  refine (two_insA W h.symm At ct t st r k hr hk).mono ?_
  rintro e w' ⟨rfl, r, T, hT, hio, hk⟩
  exact ⟨rfl, r, T, hT.symm, hio, hk⟩

set_option maxHeartbeats 4000000 in
set_option maxRecDepth 100000 in
theorem orders_main (W : World) (A0 : Option Addr) (c0 : Nat) (a : Tp) (h0 : Sl W A0 c0 a) (A1 : Option Addr) (c1 : Nat) (b : Tp) (h1 : Sl W A1 c1 b) (A2 : Option Addr) (c2 n : Nat) (ha : Rt a) (hb : Rt b) (hl : a.length = b.length) (ls : List Tp) (hls : Kd.C KT W A2 n ls) (hc2 : n ≤ c2) (hn : n ≤ 2000) :
    Calls Try.prog 4 #[.slice A0 a.length c0, .slice A1 b.length c1, .slice A2 n c2] W fun e w' => e = .returned (.bool true) ∧ Below W.heap.size W w' := by
  have hN1 := new_yes W A0 c0 a h0 ha
  have HA := Aside0.mk ha
  have HO := Aside0.mk hb
  have H0 := Aside0.mk h0
  have H1 := Aside0.mk h1
  have HLS := Aside0.mk hls
  have HEL := Aside0.mk hl
  have e1 : (a.length == b.length) = true := beq_iff_eq.2 hl
  have e2 : (a.length != b.length) = false := by simp [hl]
  have e3 : ((a.length : Int) != (b.length : Int)) = false := by simp [hl]
  have e5 : decide ((n : Int) > 2000) = false := decide_eq_false (by omega)
  have e6 : ¬ (n : Int) > 2000 := by omega
  clear h0 h1 ha hb hl hls
  go_enter Try.func4, Try.ntmps4
  go_wp2_with (first
    | (go_at_call 16; refine hN1.mono ?_; clear hN1; rintro e w1 ⟨hb1, bs1, Ab1, cb1, rt1, rfl, hbs1, hS1⟩; have HB1 := Aside0.mk hb1; have HBS1 := Aside0.mk hbs1; have HS1 := Aside0.mk hS1; have hN2 := new_yes w1 A1 c1 b (H1.out.below hb1) HO.out; clear hb1 hbs1 hS1)
    | (go_at_call 16; refine hN2.mono ?_; clear hN2; rintro e w2 ⟨hb2, bs2, Ab2, cb2, rt2, rfl, hbs2, hS2⟩; have HB2 := Aside0.mk ((Since.mk HB1.out).step hb2); have HT := Aside0.mk (two_new HS1.out ⟨hb2⟩ hbs2 hS2); have HBS2 := Aside0.mk hbs2; clear hb2 hS2 hbs2)
    | (go_at_call 17; refine (alive_calls w2).mono ?_; rintro e w3 ⟨rfl, hb3⟩; have HS3 := Aside0.mk (HB2.out.step hb3); have HT3 := Aside0.mk (HT.out.since ⟨hb3⟩); clear hb3))
  go_loopg [55] n (fun gk v55 w' => ∃ i rs1 T1 rs2 T2, v55 = .int .i64 ((i : Nat) : Int) ∧ Aside0 (i + gk = n) ∧ Aside0 (Two w' bs1 bs2 Ab1 cb1 a rs1 T1 Ab2 cb2 b rs2 T2) ∧ Aside0 (Like T1.io T2.io) ∧ Aside0 (Below W.heap.size W w'))
  case atStart => exact ⟨0, rt1, _, rt2, _, rfl, ⟨by omega⟩, HT3, ⟨⟨rfl, fun _ => Iff.rfl⟩⟩, ⟨HS3.out.b⟩⟩
  case round =>
    obtain ⟨i, rs1, T1, rs2, T2, rfl, HI, HTW, HLK, HBW⟩ := hrel
    by_cases hi : i < n
    · have hlen : ls.length = n := HLS.out.1
      have hil : i < ls.length := by omega
      have hii : (i : Int) < (n : Int) := by omega
      obtain ⟨ad, Ai, ci, rfl, hcW, slW⟩ := tup_at HLS.out i hil
      obtain ⟨x, hx⟩ : ∃ x, x = ls[i] := ⟨_, rfl⟩
      rw [← hx] at hcW slW
      have hcell := pw_cell_below HBW.out hcW
      have sl := slW.below HBW.out
      obtain ⟨r, hr⟩ : ∃ r, (insAns a T1.io x).1 = r := ⟨_, rfl⟩
      obtain ⟨k, hk⟩ : ∃ k, ((insAns a T1.io x).2 : Int) = k := ⟨_, rfl⟩
      have HR := Aside0.mk (And.intro ((congrArg Prod.fst (like_ans HEL.out HLK.out x)).symm.trans hr) ((congrArg (fun p : Bool × Nat => (p.2 : Int)) (like_ans HEL.out HLK.out x)).symm.trans hk))
      have h1c := two_insA wr HTW.out Ai ci x sl r k hr hk
      have SLW := Aside0.mk slW
      have hbb : (r != r) = false := by simp
      have hkk : (k != k) = false := by simp
      clear hx hlen sl hr hk slW hcW
      go_wp2_with (first
        | (go_at_call 18; refine h1c.mono ?_; clear h1c; rintro e w4 ⟨rfl, rs3, T3, hT4, hio3, hk4⟩; have HB4 := Aside0.mk (kept_below HBW.out hk4 HBS1.out); have HIO3 := Aside0.mk hio3; have h2c := two_insB w4 hT4 Ai ci x (SLW.out.below HB4.out) r k HR.out.1 HR.out.2; clear hT4 hio3 hk4)
        | (go_at_call 18; refine h2c.mono ?_; clear h2c; rintro e w5 ⟨rfl, rs4, T4, hT5, hio4, hk5⟩; have HB5 := Aside0.mk (kept_below HB4.out hk5 (Nat.le_trans HB1.out.size HBS2.out)); have HT5 := Aside0.mk hT5; have HIO4 := Aside0.mk hio4; clear hT5 hio4 hk5))
      obtain ⟨k2, hk2⟩ : ∃ k2, k2 = gk - 1 := ⟨_, rfl⟩
      go_roundg k2
      case measure => have := HI.out; omega
      case rel => exact ⟨i + 1, rs3, T3, rs4, T4, by go_num, ⟨by have := HI.out; omega⟩, HT5, ⟨by rw [HIO3.out, HIO4.out]; exact like_to HEL.out HLK.out x⟩, HB5⟩
    · have HT1 := Aside0.mk HTW.out.s1
      have HT2 := Aside0.mk HTW.out.s2
      have hA1 := all_calls wr (.pointer (some ⟨bs1, 0, none⟩)) ⟨_, rfl⟩
      obtain ⟨L, hL⟩ : ∃ L, L = T1.io := ⟨_, rfl⟩
      have HL := Aside0.mk hL
      clear hL
      go_wp2_with (first
        | (go_at_call 22; refine hA1.mono ?_; clear hA1; rintro e w7 ⟨rfl, rfl⟩; have HS7 := Aside0.mk (Since.alloc (Since.refl wr) (.cells #[.pointer (some ⟨bs1, 0, none⟩)] 24)); have hLs := listA_calls _ wr.heap.size bs1 (HT1.out.since HS7.out) ((cell_of_heap (heap_alloc_new wr (.cells #[.pointer (some ⟨bs1, 0, none⟩)] 24)) 0).trans rfl); rw [← HL.out] at hLs)
        | (go_at_call 21; refine hLs.mono ?_; clear hLs; rintro e w8 ⟨A8, c8, rfl, hc8, hF8, hb8⟩; have HS8 := Aside0.mk (HS7.out.step hb8); have HF8 := Aside0.mk hF8; clear hF8 hb8))
      obtain ⟨wo, hwo⟩ : ∃ wo : World, wo = wr := ⟨_, rfl⟩
      subst hwo
      obtain ⟨m, hm⟩ : ∃ m, m = L.length := ⟨_, rfl⟩
      have HM := Aside0.mk hm
      rw [← hm] at hc8
      have hm2 : m ≤ 1024 := by rw [hm, HL.out]; exact HT1.out.le
      rw [← hm]
      clear hm
      go_loopg [85] m (fun gk v85 w' => ∃ j, v85 = .int .i64 ((j : Nat) : Int) ∧ Aside0 (j + gk = m) ∧ Aside0 (Since w8 w'))
      case atStart => exact ⟨0, rfl, ⟨by omega⟩, ⟨Since.refl w8⟩⟩
      case round =>
        obtain ⟨j, rfl, HJ, HSJ⟩ := hrel
        have HSW := Aside0.mk (HS8.out.trans HSJ.out)
        by_cases hj : j < m
        · have hjl : j < L.length := by rw [← HM.out]; exact hj
          have hF8C : Kd.C KT w8 A8 m L := by have := Kd.F_now HF8.out; rwa [← HM.out] at this
          have HFC := Aside0.mk hF8C
          obtain ⟨ad, Ai, ci, rfl, hcW, slW⟩ := tup_at hF8C j hjl
          obtain ⟨x, hx⟩ : ∃ x, x = L[j] := ⟨_, rfl⟩
          rw [← hx] at hcW slW
          have hcell := pw_cell_below HSJ.out.b hcW
          have SLW := Aside0.mk slW
          have hH := has_calls wr bs2 (HT2.out.since HSW.out) Ai ci x (HSJ.out.sl slW)
          rw [decide_eq_true ((HLK.out.mem x).1 (by rw [← HL.out, hx]; exact List.getElem_mem _))] at hH
          have HX := Aside0.mk hx
          have hjj : (j : Int) < (m : Int) := by omega
          clear hx hF8C hcW slW
          by_cases hj0 : j = 0
          · subst hj0
            have hcell0 : wr.cell? ad = some (.slice Ai x.length ci) := by simpa [Addr.add] using hcell
            go_wp2_with (first
              | (go_at_call 23; refine hH.mono ?_; clear hH; rintro e w9 ⟨rfl, hb9⟩; have HS9 := Aside0.mk (HSJ.out.step hb9); clear hb9))
            obtain ⟨k2, hk2⟩ : ∃ k2, k2 = gk - 1 := ⟨_, rfl⟩
            go_roundg k2
            case measure => have := HJ.out; omega
            case rel => exact ⟨0 + 1, by go_num, ⟨by have := HJ.out; omega⟩, HS9⟩
          · obtain ⟨Ap, cp, hpW, slP⟩ := tup_some HFC.out (j - 1) (by omega) _ rfl
            obtain ⟨y, hy⟩ : ∃ y, y = L[j - 1]'(by omega) := ⟨_, rfl⟩
            rw [← hy] at hpW slP
            have HPW := Aside0.mk hpW
            have SLP := Aside0.mk slP
            obtain ⟨q, hq⟩ : ∃ q, q = cmpS a y x := ⟨_, rfl⟩
            have hqn : ¬ q ≥ 0 := by
              have hfy := HT1.out.fit y (by rw [← HL.out, hy]; exact List.getElem_mem _)
              have hfx := HT1.out.fit x (by rw [← HL.out, HX.out]; exact List.getElem_mem _)
              have hup : Up a L := by rw [HL.out]; exact HT1.out.up
              have hlt : Lt a (L[j - 1]'(by omega)) (L[j]'hjl) := (List.pairwise_iff_getElem.1 hup) (j - 1) j (by omega) hjl (by omega)
              rw [← hy, ← HX.out] at hlt
              rw [hq, cmpS_fit hfy hfx]
              unfold Lt at hlt
              omega
            have hqd : decide (q ≥ 0) = false := decide_eq_false hqn
            have HQ := Aside0.mk hq
            have hj1 : (j : Int) > 0 := by omega
            have hla : Aside0 (a.length ≤ 9223372036854775806) := ⟨by have := HA.out.1; omega⟩
            clear hpW slP hq hy
            go_wp2_with (first
              | (go_at_call 23; refine hH.mono ?_; clear hH; rintro e w9 ⟨rfl, hb9⟩; have HS9 := Aside0.mk (HSJ.out.step hb9); have HSA := Aside0.mk ((Since.mk HBW.out).trans (HS8.out.trans HS9.out)); have hcp := pw_cell_below HS9.out.b HPW.out; have hC := rcmp_calls A0 c0 a Ap cp y Ai ci x w9 (HSA.out.sl H0.out) (HS9.out.sl SLP.out) (HS9.out.sl SLW.out) hla.out; rw [← HQ.out] at hC; clear hb9)
              | (go_at_call 24; refine hC.mono ?_; clear hC; rintro e w10 ⟨rfl, hd10⟩; have HS10 := Aside0.mk (HS9.out.trans (Since.ofDrawn hd10)); clear hd10))
            obtain ⟨k2, hk2⟩ : ∃ k2, k2 = gk - 1 := ⟨_, rfl⟩
            go_roundg k2
            case measure => have := HJ.out; omega
            case rel => exact ⟨j + 1, by go_num, ⟨by have := HJ.out; omega⟩, HS10⟩
        · obtain rfl : j = m := by have := HJ.out; omega
          have hL1 := len_calls wr bs1 (HT1.out.since HSW.out)
          have hL2 := len_calls wr bs2 (HT2.out.since HSW.out)
          rw [← HLK.out.len, ← HL.out, ← HM.out] at hL2
          rw [← HL.out, ← HM.out] at hL1
          have hL3 := hL1
          go_wp2_with (first
            | (go_at_call 19; refine hL1.mono ?_; clear hL1; rintro e w6 ⟨rfl, rfl⟩)
            | (go_at_call 19; refine hL2.mono ?_; clear hL2; rintro e w6 ⟨rfl, rfl⟩)
            | (go_at_call 19; refine hL3.mono ?_; clear hL3; rintro e w6 ⟨rfl, rfl⟩))
          go_ret
          exact ⟨by simp, below_then HBW.out HBW.out.size HSW.out.b⟩

theorem orders_law_calls {W : World} (A0 : Option Addr) (c0 : Nat) (a : Tp) (h0 : Sl W A0 c0 a) (A1 : Option Addr) (c1 : Nat) (b : Tp) (h1 : Sl W A1 c1 b) (A2 : Option Addr) (c2 : Nat) (ls : List Tp) (h2 : Rs W A2 c2 ls) (W' : World) (e : W' = W) :
    Calls Try.prog 4 #[.slice A0 a.length c0, .slice A1 b.length c1, .slice A2 ls.length c2] W' fun e w' => e = .returned (.bool true) ∧ Below W.heap.size W w' := by
  subst e
  by_cases ha : Rt a
  · by_cases hb : Rt b
    · by_cases hl : a.length = b.length
      · by_cases hn : 2000 < ls.length
        · exact orders_many W' A0 c0 a h0 A1 c1 b h1 A2 c2 _ ha hb hl hn
        · exact orders_main W' A0 c0 a h0 A1 c1 b h1 A2 c2 _ ha hb hl ls h2.C h2.le (by omega)
      · exact orders_len W' A0 c0 a h0 A1 c1 b h1 A2 c2 _ ha hb hl
    · exact orders_no2 W' A0 c0 a h0 A1 c1 b h1 A2 c2 _ ha hb
  · exact orders_no1 W' A0 c0 a h0 A1 c1 b h1 A2 c2 _ ha

end Go.Proofs.Ytcmllllbmgcnlaa.Tup

namespace Go.Proofs.Ytcmllllbmgcnlaa.Tup
open Go.RowKit Go.Lib Go.Shelf Go.Proofs.Ytcmllllbmgcnlaa.F Go.Proofs.YtcmllllbmgcnlaaW.PrintWords Go.Proofs.YtcmllllbmgcnlaaW.PrintLast Go.Proofs.YtcmllllbmgcnlaaW.PrintMore
set_option linter.unusedVariables false
set_option linter.unusedSimpArgs false

theorem sel_drop {o : Tp} {p : Tp → Bool} {L : List Tp} (hu : Up o L) (hp : ∀ x y, x ∈ L → y ∈ L → Lt o x y → p y = true → p x = true) : sel p L = L.dropWhile p := by
  induction L with
  | nil => rfl
  | cons a L ih =>
    unfold Up at hu
    rw [List.pairwise_cons] at hu
    have ih' := ih hu.2 (fun x y hx hy => hp x y (List.mem_cons_of_mem _ hx) (List.mem_cons_of_mem _ hy))
    by_cases h : p a = true
    · rw [List.dropWhile_cons_of_pos h, ← ih']
      simp [sel, h]
    · rw [List.dropWhile_cons_of_neg h]
      refine List.filter_eq_self.2 fun x hx => ?_
      rcases List.mem_cons.1 hx with rfl | hx
      · simpa using h
      · have : ¬ p x = true := fun hpx => h (hp a x (by simp) (List.mem_cons_of_mem _ hx) (hu.1 x hx) hpx)
        simpa using this
theorem cmpL_take {o : Tp} {x y : Tp} (m : Nat) (h : cmpL o x y ≤ 0) : cmpL (o.take m) x y ≤ 0 := by
  induction o generalizing m with
  | nil => simpa using h
  | cons c o ih =>
    cases m with
    | zero => simp [cmpL]
    | succ m =>
      simp only [List.take_succ_cons, cmpL] at h ⊢
      by_cases p1 : rd x c < rd y c
      · rw [if_pos p1]; decide
      · rw [if_neg p1] at h ⊢
        by_cases p2 : rd x c > rd y c
        · rw [if_pos p2] at h; omega
        · rw [if_neg p2] at h ⊢; exact ih m h
theorem head_zero {o x y : Tp} (m : Nat) (h : cmpL (o.take m) x y = 0) : headL m o x y = true := by
  induction o generalizing m with
  | nil => cases m <;> rfl
  | cons c o ih =>
    cases m with
    | zero => rfl
    | succ m =>
      simp only [List.take_succ_cons] at h
      have h' := (cmpL_zero (c :: o.take m) x y).1 h
      have h1 := h' c (by simp)
      have h2 := ih m ((cmpL_zero _ _ _).2 fun d hd => h' d (List.mem_cons_of_mem _ hd))
      simp [headL, h1, h2]
theorem take_end {α : Type} (p : α → Bool) (D : List α) (x : α) (h : D[(D.takeWhile p).length]? = some x) : p x = false := by
  induction D with
  | nil => simp at h
  | cons a D ih =>
    by_cases ha : p a = true
    · rw [List.takeWhile_cons_of_pos ha] at h
      exact ih (by simpa using h)
    · rw [List.takeWhile_cons_of_neg ha] at h
      have : a = x := by simpa using h
      subst this
      simpa using ha
theorem take_yes {α : Type} (p : α → Bool) {D : List α} {x : α} (h : x ∈ D.takeWhile p) : p x = true := by
  induction D with
  | nil => simp at h
  | cons a D ih =>
    by_cases ha : p a = true
    · rw [List.takeWhile_cons_of_pos ha] at h
      rcases List.mem_cons.1 h with rfl | h
      · exact ha
      · exact ih h
    · rw [List.takeWhile_cons_of_neg ha] at h; simp at h
/-- What Range and From give beside one another. -/
theorem ranges_law {o t : Tp} {L : List Tp} (k : Int) (hu : Up o L) (hf : ∀ a ∈ L, Fit o a) (ht : t ∈ L) :
    ∃ d R', rangeL o k t L = d :: R' ∧ d ∈ L ∧ rangeL o k t L <+: fromL o d L ∧ ∀ x, (fromL o d L)[(rangeL o k t L).length]? = some x → headS o k x t = false := by
  have hft := hf t ht
  have e1 : rangeL o k t L = (L.dropWhile (pR o k t)).takeWhile (fun x => headS o k x t) := by
    unfold rangeL
    rw [if_pos hft.1, sel_drop hu fun x y _ _ hxy hy => pR_closed hxy hy]
  have hsplit := List.takeWhile_append_dropWhile (p := pR o k t) (l := L)
  have hA : ∀ x ∈ L.takeWhile (pR o k t), pR o k t x = true := fun x hx => take_yes _ hx
  have htt : pR o k t t = false := by
    have : cmpL (o.take k.toNat) t t = 0 := (cmpL_zero _ _ _).2 fun _ _ => rfl
    simp [pR, this]
  have htD : t ∈ L.dropWhile (pR o k t) := by
    rw [← hsplit] at ht
    rcases List.mem_append.1 ht with h | h
    · rw [hA t h] at htt; cases htt
    · exact h
  obtain ⟨A, hAe⟩ : ∃ A, A = L.takeWhile (pR o k t) := ⟨_, rfl⟩
  obtain ⟨D, hDe⟩ : ∃ D, D = L.dropWhile (pR o k t) := ⟨_, rfl⟩
  rw [← hAe] at hsplit hA
  rw [← hDe] at hsplit htD e1
  have hd0 : ∀ d D', D = d :: D' → pR o k t d = false := by
    intro d D' e
    have h := List.head?_dropWhile_not (pR o k t) L
    rw [← hDe, e] at h
    simpa using h
  cases D with
  | nil => simp at htD
  | cons d D' =>
    have hdp := hd0 d D' rfl
    have huD : Up o (A ++ d :: D') := by rw [hsplit]; exact hu
    unfold Up at huD
    rw [List.pairwise_append, List.pairwise_cons] at huD
    have hdL : d ∈ L := by rw [← hsplit]; simp
    have hfd := hf d hdL
    have hhd : headS o k d t = true := by
      have hle : cmpL o d t ≤ 0 := by
        rcases List.mem_cons.1 htD with rfl | h
        · rw [(cmpL_zero _ _ _).2 fun _ _ => rfl]; decide
        · exact Int.le_of_lt (huD.2.1.1 t h)
      have h2 := cmpL_take k.toNat hle
      have h3 : ¬ cmpL (o.take k.toNat) d t < 0 := by simpa [pR] using hdp
      have h4 := head_zero k.toNat (show cmpL (o.take k.toNat) d t = 0 by omega)
      unfold headS
      rw [decide_eq_true ⟨hfd, hft⟩, h4]; rfl
    have e2 : fromL o d L = d :: D' := by
      unfold fromL
      rw [if_pos hfd.1, sel_drop hu fun x y hx hy hxy hyp => pF_closed hfd (hf x hx) (hf y hy) hxy hyp, ← hsplit]
      have hAll : ∀ x ∈ A, pF o d x = true := fun x hx => by
        have hlt := huD.2.2 x hx d (by simp)
        have hxL : x ∈ L := by rw [← hsplit]; simp [hx]
        unfold pF
        rw [cmpS_fit (hf x hxL) hfd]
        exact decide_eq_true hlt
      have hno : pF o d d = false := by
        unfold pF
        rw [cmpS_fit hfd hfd, (cmpL_zero _ _ _).2 fun _ _ => rfl]; rfl
      rw [List.dropWhile_append_of_pos hAll, List.dropWhile_cons_of_neg (by simp [hno])]
    rw [e1]
    refine ⟨d, D'.takeWhile (fun x => headS o k x t), List.takeWhile_cons_of_pos hhd, hdL, by rw [e2]; exact List.takeWhile_prefix _, fun x hx => ?_⟩
    rw [e2] at hx
    exact take_end (fun x => headS o k x t) _ x hx
theorem range_zero {o key : Tp} {L : List Tp} (hf : ∀ a ∈ L, Fit o a) (hr : Rt o) (hk : key.length = o.length) : rangeL o 0 key L = L := by
  unfold rangeL
  rw [if_pos hk]
  have e : sel (pR o 0 key) L = L := List.filter_eq_self.2 fun x hx => by simp [pR, cmpL]
  rw [e]
  exact take_all _ fun a ha => by unfold headS; rw [decide_eq_true ⟨hf a ha, hk, hr⟩]; cases o <;> rfl

/-- Insert into a set. -/
theorem one_ins (W : World) {bs : Nat} {A : Option Addr} {c : Nat} {o : Tp} {rt : Nat} {T : BT} (h : SetAt (fun k => k ≠ bs) W bs A c o rt T) (At : Option Addr) (ct : Nat) (t : Tp) (st : Sl W At ct t) :
    Calls Try.prog 18 #[.pointer (some ⟨bs, 0, none⟩), .slice At t.length ct] W fun e w' => ∃ r T', e = .returned (.tuple #[.bool (insAns o T.io t).1, .int .i64 ((insAns o T.io t).2 : Int)]) ∧ SetAt (fun k => k ≠ bs) w' bs A c o r T' ∧ T'.io = insTo o T.io t ∧ Kept1 bs W w' := by
  refine (insert_calls W bs h At ct t st (by have := h.rto.1; omega)).mono ?_
  rintro e w' ⟨r, T', rfl, hS, hio, hk⟩
  have l1 := h.lt
  refine ⟨r, T', rfl, hS.mono (fun k hk => ?_) (fun hk => hk rfl), hio, hk⟩
  rcases hk with hk | hk
  · exact hk
  · show k ≠ bs; omega
theorem set_one {W0 W : World} {bs : Nat} {A : Option Addr} {c : Nat} {o : Tp} {rt : Nat} {T : BT} (h : SetAt (fun k => W0.heap.size ≤ k ∧ k < W.heap.size ∧ k ≠ bs) W bs A c o rt T) : SetAt (fun k => k ≠ bs) W bs A c o rt T :=
  h.mono (fun k hk => hk.2.2) (fun hk => hk rfl)

end Go.Proofs.Ytcmllllbmgcnlaa.Tup

namespace Go.Proofs.Ytcmllllbmgcnlaa.Tup
open Go.RowKit Go.Lib Go.Shelf Go.Proofs.Ytcmllllbmgcnlaa.F Go.Proofs.YtcmllllbmgcnlaaW.PrintWords Go.Proofs.YtcmllllbmgcnlaaW.PrintLast Go.Proofs.YtcmllllbmgcnlaaW.PrintMore
set_option linter.unusedVariables false
set_option linter.unusedSimpArgs false

theorem infoI : (Try.prog.info? 3).map (fun i => (i.zero, i.size, i.bytes)) = some (some (.int .i64 0), 1, 8) := by kernel_rfl
/-- A made row of noughts is read. -/
theorem sl_made {w : World} {base g n : Nat} (h : w.ownsRow base 3 1 (.slice (some ⟨g, 0, none⟩) n n) n (madeCells (Value.int .i64 0).cells (n * 1)).toList) : Sl w (some ⟨g, 0, none⟩) n (List.replicate n 0) := by
  have e : (madeCells (Value.int .i64 0).cells (n * 1)).toList = (List.replicate n (0 : Int)).map (Value.int .i64) := by
    rw [Nat.mul_one, show (Value.int .i64 0).cells = #[.int .i64 0] from rfl, toList_madeCells_one, List.map_replicate]
  rw [e] at h
  obtain ⟨A', c', e', hle, hF⟩ := rows_in (d := Kd.int .i64) (ok := fun _ => False) (xs := List.replicate n (0 : Int)) rfl h (Els.of (by simp) fun i hi hu => by rw [List.getElem_map]; exact fun W' _ => rfl) (by simp)
  injection e' with e1 e2 e3
  subst e1 e3
  rw [List.length_replicate] at hF hle
  exact ⟨by rw [List.length_replicate]; exact Kd.F_now hF, by rw [List.length_replicate]; exact hle⟩

/-- The first of a row of tuples. -/
theorem first_at {W : World} {ok : Nat → Prop} {A : Option Addr} {R R' : List Tp} {d : Tp} (h : Kd.F KT W ok A R.length R) (e : R = d :: R') : ∃ ad Ad cd, A = some ad ∧ W.cell? ad = some (.slice Ad d.length cd) ∧ W.cell? (ad.add 0) = some (.slice Ad d.length cd) ∧ Sl W Ad cd d := by
  subst e
  obtain ⟨ad, Ad, cd, rfl, h1, h2⟩ := tup_at (Kd.F_now h) 0 (by simp)
  exact ⟨ad, Ad, cd, rfl, by simpa [Addr.add] using h1, h1, h2⟩
theorem take_row {W : World} {A : Option Addr} {F R : List Tp} (h : Kd.C KT W A F.length F) (hp : R <+: F) : Kd.C KT W A R.length R := by
  have e : F.take R.length = R := (List.prefix_iff_eq_take.1 hp).symm
  have := Kd.C_take (m := R.length) h hp.length_le
  rwa [e] at this

set_option maxHeartbeats 2000000 in
set_option maxRecDepth 100000 in
theorem ranges_no (W : World) (A0 : Option Addr) (c0 : Nat) (o : Tp) (h0 : Sl W A0 c0 o) (A1 : Option Addr) (c1 n : Nat) (k : Int) (ho : ¬ Rt o) :
    Calls Try.prog 7 #[.slice A0 o.length c0, .slice A1 n c1, .int .i64 k] W fun e w' => e = .returned (.bool true) ∧ Below W.heap.size W w' := by
  have hN1 := new_code W A0 c0 o h0 1 (by rw [if_neg ho])
  clear ho h0
  go_enter Try.func7, Try.ntmps7
  go_wp2_with (first
    | (go_at_call 16; refine hN1.mono ?_; clear hN1; rintro e w1 ⟨p1, rfl, hb1⟩; have HB1 := Aside0.mk hb1; clear hb1)
    | (go_at_call 17; refine (alive_calls w1).mono ?_; rintro e w3 ⟨rfl, hb3⟩; have HS3 := Aside0.mk ((Since.mk HB1.out).step hb3); clear hb3))
  go_ret
  exact ⟨rfl, HS3.out.b⟩
set_option maxHeartbeats 2000000 in
set_option maxRecDepth 100000 in
theorem ranges_many (W : World) (A0 : Option Addr) (c0 : Nat) (o : Tp) (h0 : Sl W A0 c0 o) (A1 : Option Addr) (c1 n : Nat) (k : Int) (ho : Rt o) (hn : 300 < n) :
    Calls Try.prog 7 #[.slice A0 o.length c0, .slice A1 n c1, .int .i64 k] W fun e w' => e = .returned (.bool true) ∧ Below W.heap.size W w' := by
  have hN1 := new_code W A0 c0 o h0 0 (by rw [if_pos ho])
  have e5 : decide ((n : Int) > 300) = true := decide_eq_true (by omega)
  have e6 : (n : Int) > 300 := by omega
  clear ho h0 hn
  go_enter Try.func7, Try.ntmps7
  go_wp2_with (first
    | (go_at_call 16; refine hN1.mono ?_; clear hN1; rintro e w1 ⟨p1, rfl, hb1⟩; have HB1 := Aside0.mk hb1; clear hb1)
    | (go_at_call 17; refine (alive_calls w1).mono ?_; rintro e w3 ⟨rfl, hb3⟩; have HS3 := Aside0.mk ((Since.mk HB1.out).step hb3); clear hb3))
  go_ret
  exact ⟨rfl, HS3.out.b⟩

set_option maxHeartbeats 4000000 in
set_option maxRecDepth 100000 in
theorem ranges_main (W : World) (A0 : Option Addr) (c0 : Nat) (o : Tp) (h0 : Sl W A0 c0 o) (A1 : Option Addr) (c1 n : Nat) (k : Int) (ho : Rt o) (ls : List Tp) (hls : Kd.C KT W A1 n ls) (hc1 : n ≤ c1) (hn : n ≤ 300) :
    Calls Try.prog 7 #[.slice A0 o.length c0, .slice A1 n c1, .int .i64 k] W fun e w' => e = .returned (.bool true) ∧ Below W.heap.size W w' := by
  have hN1 := new_yes W A0 c0 o h0 ho
  have HO := Aside0.mk ho
  have H0 := Aside0.mk h0
  have HLS := Aside0.mk hls
  have e5 : decide ((n : Int) > 300) = false := decide_eq_false (by omega)
  have e6 : ¬ (n : Int) > 300 := by omega
  obtain ⟨oi, hi, hz0, hz1, hz2⟩ := info_parts infoI
  have HIN := Aside0.mk (And.intro hi (And.intro hz0 (And.intro hz1 hz2)))
  clear h0 ho hls hi hz0 hz1 hz2
  go_enter Try.func7, Try.ntmps7
  go_wp2_with (first
    | (go_at_call 16; refine hN1.mono ?_; clear hN1; rintro e w1 ⟨hb1, bs, Ab, cb, rt1, rfl, hbs1, hS1⟩; have HB1 := Aside0.mk hb1; have HBS := Aside0.mk hbs1; have HS1 := Aside0.mk (set_one hS1); clear hb1 hbs1 hS1)
    | (go_at_call 17; refine (alive_calls w1).mono ?_; rintro e w3 ⟨rfl, hb3⟩; have HS3 := Aside0.mk ((Since.mk HB1.out).step hb3); have HT3 := Aside0.mk (HS1.out.since ⟨hb3⟩); clear hb3))
  go_loopg [35] n (fun gk v35 w' => ∃ i rs T, v35 = .int .i64 ((i : Nat) : Int) ∧ Aside0 (i + gk = n) ∧ Aside0 (SetAt (fun k => k ≠ bs) w' bs Ab cb o rs T) ∧ Aside0 (Below W.heap.size W w'))
  case atStart => exact ⟨0, rt1, _, rfl, ⟨by omega⟩, HT3, ⟨HS3.out.b⟩⟩
  case round =>
    obtain ⟨i, rs, T, rfl, HI, HT, HBW⟩ := hrel
    by_cases hi : i < n
    · have hlen : ls.length = n := HLS.out.1
      have hil : i < ls.length := by omega
      have hii : (i : Int) < (n : Int) := by omega
      obtain ⟨ad, Ai, ci, rfl, hcell, sl⟩ := tup_at (Kd.C_below HLS.out HBW.out) i hil
      obtain ⟨x, hx⟩ : ∃ x, x = ls[i] := ⟨_, rfl⟩
      rw [← hx] at hcell sl
      have h1c := one_ins wr HT.out Ai ci x sl
      clear hx hlen sl
      go_wp2_with (first
        | (go_at_call 18; refine h1c.mono ?_; clear h1c; rintro e w4 ⟨rs3, T3, rfl, hT4, hio3, hk4⟩; have HB4 := Aside0.mk (kept_below HBW.out hk4 HBS.out); have HT4 := Aside0.mk hT4; clear hT4 hio3 hk4))
      obtain ⟨k2, hk2⟩ : ∃ k2, k2 = gk - 1 := ⟨_, rfl⟩
      go_roundg k2
      case measure => have := HI.out; omega
      case rel => exact ⟨i + 1, rs3, T3, by go_num, ⟨by have := HI.out; omega⟩, HT4, HB4⟩
    · have hA1 := all_calls wr (.pointer (some ⟨bs, 0, none⟩)) ⟨_, rfl⟩
      obtain ⟨L, hL⟩ : ∃ L, L = T.io := ⟨_, rfl⟩
      have HL := Aside0.mk hL
      clear hL
      go_wp2_with (first
        | (go_at_call 22; refine hA1.mono ?_; clear hA1; rintro e w7 ⟨rfl, rfl⟩; have HS7 := Aside0.mk (Since.alloc (Since.refl wr) (.cells #[.pointer (some ⟨bs, 0, none⟩)] 24)); have hLs := listA_calls _ wr.heap.size bs (HT.out.since HS7.out) ((cell_of_heap (heap_alloc_new wr (.cells #[.pointer (some ⟨bs, 0, none⟩)] 24)) 0).trans rfl); rw [← HL.out] at hLs)
        | (go_at_call 21; refine hLs.mono ?_; clear hLs; rintro e w8 ⟨A8, c8, rfl, hc8, hF8, hb8⟩; have HS8 := Aside0.mk (HS7.out.step hb8); have HF8 := Aside0.mk hF8; have HC8 := Aside0.mk hc8; clear hF8 hb8)
        | (refine wpList_make_full _ rfl (.tmp 48) (.tmp 48) 22 rfl w8.heap.size 3 oi (.int .i64 0) 1 Try.underlying22 HIN.out.1 HIN.out.2.1 HIN.out.2.2.1 .i64 .i64 _ _ o.length rfl rfl rfl rfl (by rw [HIN.out.2.2.2]; have := HO.out.1; omega) (by have := HO.out.1; unfold maxLen; omega) (Nat.le_refl _) ?_; intro w9 hmade hg9; have HD9 := Aside0.mk (Since.mk ((Below.refl w8.heap.size w8).grown hg9 (Nat.le_refl _) (fun j e => by cases e))); have hrg := rangec_calls w9 (some ⟨bs, 0, none⟩) 0 _ o.length (List.replicate o.length 0) (sl_made hmade) (by have := HO.out.1; simp; omega); clear hmade hg9)
        | (go_at_call 29; rw [List.length_replicate] at hrg; refine hrg.mono ?_; clear hrg; rintro e w10 ⟨Bs, Bk, Bi, Ak, ck, rfl, hBs, hBi, hBk, hck, hkey, hb10⟩; have HD10 := Aside0.mk (HD9.out.step hb10); have hLr := listR_calls w10 Bs Bk Bi bs (HT.out.since (HS8.out.trans HD10.out)) hBs Ak ck (List.replicate o.length 0) hBk hck hkey 0 hBi; rw [range_zero HT.out.fit HO.out (by simp), ← HL.out] at hLr; clear hBs hBi hBk hck hkey hb10)
        | (go_at_call 21; refine hLr.mono ?_; clear hLr; rintro e w11 ⟨A11, c11, rfl, hc11, hF11, hb11⟩; have HD11 := Aside0.mk (HD10.out.step hb11); have HF11 := Aside0.mk hF11; have hSm := same2_calls A11 c11 L A8 c8 L w11 (Kd.F_now hF11) hc11 (Kd.F_now (Kd.F_below HF8.out HD11.out.b)) HC8.out 8 (fun t ht => by rw [HL.out] at ht; have := (HT.out.fit t ht).1; have := HT.out.rto.1; omega) (by omega) (by rw [HL.out]; have := HT.out.le; omega); clear hF11 hb11 hc11)
        | (go_at_call 20; refine hSm.mono ?_; clear hSm; rintro e w12 ⟨rfl, hd12⟩; have HD12 := Aside0.mk (HD11.out.trans (Since.ofDrawn hd12)); clear hd12))
      obtain ⟨wo, hwo⟩ : ∃ wo : World, wo = wr := ⟨_, rfl⟩
      subst hwo
      obtain ⟨m, hm⟩ : ∃ m, m = L.length := ⟨_, rfl⟩
      have HM := Aside0.mk hm
      have hm2 : m ≤ 1024 := by rw [hm, HL.out]; exact HT.out.le
      rw [← hm]
      clear hm hc8
      have hcm : m ≤ c8 := by rw [HM.out]; exact HC8.out
      go_loopg [57] m (fun gk v57 w' => ∃ j, v57 = .int .i64 ((j : Nat) : Int) ∧ Aside0 (j + gk = m) ∧ Aside0 (Since w8 w'))
      case atStart => exact ⟨0, rfl, ⟨by omega⟩, HD12⟩
      case round =>
        obtain ⟨j, rfl, HJ, HSJ⟩ := hrel
        have HSW := Aside0.mk (HS8.out.trans HSJ.out)
        by_cases hj : j < m
        · have hjl : j < L.length := by rw [← HM.out]; exact hj
          have hF8C : Kd.C KT w8 A8 m L := by have := Kd.F_now HF8.out; rwa [← HM.out] at this
          obtain ⟨ad, Ai, ci, rfl, hcW, slW⟩ := tup_at hF8C j hjl
          obtain ⟨x, hx⟩ : ∃ x, x = L[j] := ⟨_, rfl⟩
          rw [← hx] at hcW slW
          have hcell := pw_cell_below HSJ.out.b hcW
          have SLW := Aside0.mk slW
          have hxL : x ∈ L := by rw [hx]; exact List.getElem_mem _
          obtain ⟨d, R', hR, hdL, hpre, hend⟩ := ranges_law k (show Up o L by rw [HL.out]; exact HT.out.up) (show ∀ a ∈ L, Fit o a by rw [HL.out]; exact HT.out.fit) hxL
          have hxl : x.length ≤ 1000000 := by have := (HT.out.fit x (by rw [← HL.out]; exact hxL)).1; have := HO.out.1; omega
          have hjj : (j : Int) < (m : Int) := by omega
          obtain ⟨R, hRe⟩ : ∃ R, R = rangeL o k x L := ⟨_, rfl⟩
          obtain ⟨F, hFe⟩ : ∃ F, F = fromL o d L := ⟨_, rfl⟩
          rw [← hRe] at hR hpre hend
          rw [← hFe] at hpre hend
          have hR0 : ((R.length : Int) == 0) = false := beq_eq_false_iff_ne.2 (by rw [hR]; simp; omega)
          have hR0n : (R.length == 0) = false := beq_eq_false_iff_ne.2 (by rw [hR]; simp)
          have hR1 : 0 < R.length := by rw [hR]; simp
          have hRF : R.length ≤ F.length := hpre.length_le
          have hRd : decide (F.length < R.length) = false := decide_eq_false (by omega)
          have hFb : ∀ t ∈ F, t ∈ L := fun t ht => by
            rw [hFe] at ht
            unfold fromL at ht
            split at ht
            · exact (List.mem_filter.1 ht).1
            · simp at ht
          have hb8 : ∀ t ∈ L, t.length ≤ 8 := fun t ht => by rw [HL.out] at ht; have := (HT.out.fit t ht).1; have := HO.out.1; omega
          have HRB : Aside0 (∀ t ∈ R, t.length ≤ 8) := ⟨fun t ht => hb8 t (hFb t (hpre.subset ht))⟩
          have hFn : F.length ≤ 1024 := by rw [hFe]; exact Nat.le_trans (fromL_len o d L) (by rw [← HM.out]; exact hm2)
          have HRN : Aside0 (R.length ≤ 1000000) := ⟨by omega⟩
          have HDL : Aside0 (d.length ≤ 1000000) := ⟨by have := hb8 d hdL; omega⟩
          have HR := Aside0.mk (And.intro hR (And.intro hdL (And.intro hpre hend)))
          have HRE := Aside0.mk hRe
          have HFE := Aside0.mk hFe
          have HFB := Aside0.mk hFb
          have hrg := rangec_calls wr (some ⟨bs, 0, none⟩) k Ai ci x (HSJ.out.sl slW) hxl
          clear hx hF8C hcW slW hR hdL hpre hend hRe hFe hFb hb8 hxL hxl
          by_cases hgt : R.length < F.length
          · have hgd : decide (F.length > R.length) = true := decide_eq_true hgt
            obtain ⟨y, hy⟩ : ∃ y, y = F[R.length] := ⟨_, rfl⟩
            have hyh : headS o k y x = false := HR.out.2.2.2 y (by rw [hy]; exact List.getElem?_eq_getElem hgt)
            have HY := Aside0.mk (And.intro hy hyh)
            have hon : Aside0 (o.length ≤ 9223372036854775806) := ⟨by have := HO.out.1; omega⟩
            clear hy hyh
            go_wp2_with (first
            | (go_at_call 29; refine hrg.mono ?_; clear hrg; rintro e w20 ⟨Bs2, Bk2, Bi2, Ak2, ck2, rfl, hBs, hBi, hBk, hck, hkey, hb20⟩; have HE20 := Aside0.mk (HSJ.out.step hb20); have hLr := listR_calls w20 Bs2 Bk2 Bi2 bs (HT.out.since (HS8.out.trans HE20.out)) hBs Ak2 ck2 x hBk hck hkey k hBi; rw [← HL.out, ← HRE.out] at hLr; clear hBs hBi hBk hck hkey hb20)
            | (go_at_call 21; refine hLr.mono ?_; clear hLr; rintro e w21 ⟨A21, c21, rfl, hc21, hF21, hb21⟩; have HE21 := Aside0.mk (HE20.out.step hb21); obtain ⟨ad21, Ad, cd, rfl, hcd, hcd0, sld⟩ := first_at hF21 HR.out.1; have HF21 := Aside0.mk hF21; have hfc := fromc_calls w21 (some ⟨bs, 0, none⟩) Ad cd d sld HDL.out; clear hF21 hb21 sld)
            | (go_at_call 30; refine hfc.mono ?_; clear hfc; rintro e w22 ⟨Bs3, Bk3, Ak3, ck3, rfl, hBs, hBk, hck, hkey, hb22⟩; have HG22 := Aside0.mk (Since.mk hb22); have HE22 := Aside0.mk (HE21.out.step hb22); have hLf := listF_calls w22 Bs3 Bk3 bs (HT.out.since (HS8.out.trans HE22.out)) hBs Ak3 ck3 d hBk hck hkey; rw [← HL.out, ← HFE.out] at hLf; clear hBs hBk hck hkey hb22)
            | (go_at_call 21; refine hLf.mono ?_; clear hLf; rintro e w23 ⟨A23, c23, rfl, hc23, hF23, hb23⟩; have HE23 := Aside0.mk (HE22.out.step hb23); have HG23 := Aside0.mk (HG22.out.step hb23); have HF23 := Aside0.mk hF23; have hrc : R.length ≤ c23 := Nat.le_trans hRF hc23; have hSm := same2_calls A23 c23 R (some ad21) c21 R w23 (take_row (Kd.F_now hF23) HR.out.2.2.1) hrc (Kd.F_now (Kd.F_below HF21.out HG23.out.b)) hc21 8 HRB.out (by omega) HRN.out; rw [decide_eq_true rfl] at hSm; obtain ⟨ad23, Ay, cy, rfl, hcy, sly⟩ := tup_at (Kd.F_now hF23) R.length hgt; rw [← HY.out.1] at hcy sly; have SLY := Aside0.mk sly; clear sly; clear hF23 hb23)
            | (go_at_call 20; refine hSm.mono ?_; clear hSm; rintro e w24 ⟨rfl, hd24⟩; have HE24 := Aside0.mk (HE23.out.trans (Since.ofDrawn hd24)); have hcy4 := pw_cell_below (Since.ofDrawn hd24).b hcy; have hHd := rhead_calls A0 c0 o k Ay cy y Ai ci x w24 (((Since.mk HBW.out).trans (HS8.out.trans HE24.out)).sl H0.out) ((Since.ofDrawn hd24).sl SLY.out) (HE24.out.sl SLW.out) hon.out; rw [HY.out.2] at hHd; clear hd24)
            | (go_at_call 31; refine hHd.mono ?_; clear hHd; rintro e w25 ⟨rfl, hd25⟩; have HE25 := Aside0.mk (HE24.out.trans (Since.ofDrawn hd25)); clear hd25))
            obtain ⟨k2, hk2⟩ : ∃ k2, k2 = gk - 1 := ⟨_, rfl⟩
            go_roundg k2
            case measure => have := HJ.out; omega
            case rel => exact ⟨j + 1, by go_num, ⟨by have := HJ.out; omega⟩, HE25⟩
          · have hgd : decide (F.length > R.length) = false := decide_eq_false hgt
            go_wp2_with (first
            | (go_at_call 29; refine hrg.mono ?_; clear hrg; rintro e w20 ⟨Bs2, Bk2, Bi2, Ak2, ck2, rfl, hBs, hBi, hBk, hck, hkey, hb20⟩; have HE20 := Aside0.mk (HSJ.out.step hb20); have hLr := listR_calls w20 Bs2 Bk2 Bi2 bs (HT.out.since (HS8.out.trans HE20.out)) hBs Ak2 ck2 x hBk hck hkey k hBi; rw [← HL.out, ← HRE.out] at hLr; clear hBs hBi hBk hck hkey hb20)
            | (go_at_call 21; refine hLr.mono ?_; clear hLr; rintro e w21 ⟨A21, c21, rfl, hc21, hF21, hb21⟩; have HE21 := Aside0.mk (HE20.out.step hb21); obtain ⟨ad21, Ad, cd, rfl, hcd, hcd0, sld⟩ := first_at hF21 HR.out.1; have HF21 := Aside0.mk hF21; have hfc := fromc_calls w21 (some ⟨bs, 0, none⟩) Ad cd d sld HDL.out; clear hF21 hb21 sld)
            | (go_at_call 30; refine hfc.mono ?_; clear hfc; rintro e w22 ⟨Bs3, Bk3, Ak3, ck3, rfl, hBs, hBk, hck, hkey, hb22⟩; have HG22 := Aside0.mk (Since.mk hb22); have HE22 := Aside0.mk (HE21.out.step hb22); have hLf := listF_calls w22 Bs3 Bk3 bs (HT.out.since (HS8.out.trans HE22.out)) hBs Ak3 ck3 d hBk hck hkey; rw [← HL.out, ← HFE.out] at hLf; clear hBs hBk hck hkey hb22)
            | (go_at_call 21; refine hLf.mono ?_; clear hLf; rintro e w23 ⟨A23, c23, rfl, hc23, hF23, hb23⟩; have HE23 := Aside0.mk (HE22.out.step hb23); have HG23 := Aside0.mk (HG22.out.step hb23); have HF23 := Aside0.mk hF23; have hrc : R.length ≤ c23 := Nat.le_trans hRF hc23; have hSm := same2_calls A23 c23 R (some ad21) c21 R w23 (take_row (Kd.F_now hF23) HR.out.2.2.1) hrc (Kd.F_now (Kd.F_below HF21.out HG23.out.b)) hc21 8 HRB.out (by omega) HRN.out; rw [decide_eq_true rfl] at hSm; clear hF23 hb23)
            | (go_at_call 20; refine hSm.mono ?_; clear hSm; rintro e w24 ⟨rfl, hd24⟩; have HE24 := Aside0.mk (HE23.out.trans (Since.ofDrawn hd24)); clear hd24))
            obtain ⟨k2, hk2⟩ : ∃ k2, k2 = gk - 1 := ⟨_, rfl⟩
            go_roundg k2
            case measure => have := HJ.out; omega
            case rel => exact ⟨j + 1, by go_num, ⟨by have := HJ.out; omega⟩, HE24⟩
        · go_wp2
          go_ret
          exact ⟨rfl, below_then HBW.out HBW.out.size HSW.out.b⟩

theorem ranges_law_calls {W : World} (A0 : Option Addr) (c0 : Nat) (o : Tp) (h0 : Sl W A0 c0 o) (A1 : Option Addr) (c1 : Nat) (ls : List Tp) (h1 : Rs W A1 c1 ls) (k : Int) (hw : (Lit.int .i64 k).wf = true) (W' : World) (e : W' = W) :
    Calls Try.prog 7 #[.slice A0 o.length c0, .slice A1 ls.length c1, .int .i64 k] W' fun e w' => e = .returned (.bool true) ∧ Below W.heap.size W w' := by
  subst e
  by_cases ho : Rt o
  · by_cases hn : 300 < ls.length
    · exact ranges_many W' A0 c0 o h0 A1 c1 _ k ho hn
    · exact ranges_main W' A0 c0 o h0 A1 c1 _ k ho ls h1.C h1.le (by omega)
  · exact ranges_no W' A0 c0 o h0 A1 c1 _ k ho

end Go.Proofs.Ytcmllllbmgcnlaa.Tup

namespace Go.Proofs.Ytcmllllbmgcnlaa.btreeRanges
open Go.ChangeShapes Go.WideShapes Go.ChangeAt Go.RowKit Go.Proofs.YtcmllllbmgcnlaaW Go.Proofs.Ytcmllllbmgcnlaa.Tup
open Go.ChangeMaps (open_string shut_string)
set_option linter.unusedVariables false
theorem own : ownKnob Try.prog.godebug = none := by kernel_rfl
theorem laidOut : laidOutB Try.prog = true := by kernel_rfl
set_option maxRecDepth 100000 in
theorem lifted (os : Os) (started : os.Started) (H : Type) (enc : TypeId × Value → H) :
    ReturnsInHanded {} Try.checked os 7 .any (Rows.btreeRangesSpec.pre6 enc Try.prog Try.f7 Rows.btreeRangesRow.domain false) (Rows.btreeRangesSpec.post enc Try.prog Try.f7 false true false false) := by
  refine returnsInHanded_of_change_sized (C := Try.checked) own started (by kernel_rfl) Try.func7
    (ChangeSpec.witness6 (enc := enc) (C := Try.checked) false ⟨#[], #[.slice none 0 0, .slice none 0 0, .int .i64 0], []⟩ 8 (by kernel_rfl) (by kernel_rfl) (by kernel_rfl) (by kernel_rfl)) ?_
  intro W base args ds gs before hval0 hW hcnd hsz0 _
  have hsz : (DataW.weightsEach Try.prog (Try.f7.params.toList ++ Rows.btreeRangesSpec.plain.varTypes Try.prog) (ds ++ gs)).all (· ≤ reachBytes) = true := hsz0
  have hval : ∀ (j : Nat) t v, Try.f7.params[j]? = some t → args[j]? = some v → Value.okWide Try.prog W .any base t v := hval0
  have hW' := hW
  obtain ⟨p, q, hA0, hV, rfl, hfz, hnd⟩ := hW
  have hA : DataW.TrodAll enc Try.prog W 0 (fun _ => true) true Try.f7.params.toList args.toList ds p := hA0
  rw [Try.params7] at hA hval hsz
  obtain ⟨v0, vs0, d0, ds0, p0, q0, hargs, rfl, rfl, h0, r0⟩ := trodAll_cons hA
  obtain ⟨v1, vs1, d1, ds1, p1, q1, rfl, rfl, rfl, h1, r1⟩ := trodAll_cons r0
  obtain ⟨v2, vs2, d2, ds2, p2, q2, rfl, rfl, rfl, h2, r2⟩ := trodAll_cons r1
  obtain ⟨rfl, rfl, rfl⟩ := trodAll_nil r2
  obtain rfl : args = #[v0, v1, v2] := by cases args; simp_all
  obtain ⟨rfl, rfl⟩ := trodVars_none hV
  have k0 := h0
  have lt0 : ∀ x ∈ p0, x.block < W.heap.size := by obtain ⟨m, hm⟩ := k0; exact DataW.trod_lt m _ _ _ hm
  obtain ⟨A0, c0, l0, rfl, s0, f0⟩ := open_sl (hval 0 22 v0 rfl rfl) h0
  have k1 := h1
  have lt1 : ∀ x ∈ p1, x.block < W.heap.size := by obtain ⟨m, hm⟩ := k1; exact DataW.trod_lt m _ _ _ hm
  obtain ⟨A1, c1, l1, rfl, s1⟩ := open_rows (hval 1 23 v1 rfl rfl) h1
  have k2 := h2
  have lt2 : ∀ x ∈ p2, x.block < W.heap.size := by obtain ⟨m, hm⟩ := k2; exact DataW.trod_lt m _ _ _ hm
  obtain ⟨n2, rfl, rfl, rfl, w2⟩ := open_int Try.underlying3 (hval 2 3 v2 rfl rfl) h2
  clear hA0 hval0 hsz0 hsz
  refine (ranges_law_calls A0 c0 l0 s0 A1 c1 l1 s1 n2 w2 W rfl).mono fun e W' ⟨he, bel⟩ => ?_
  subst he
  exact ⟨_, rfl, _, _, _, [], _, [], hW', trodAll_mk1 (shut_bool Try.underlying4 _), (trodAll_cons_mk (Below.trod laidOut (by kernel_rfl) (of_decide_eq_true (by kernel_rfl)) k0 bel lt0) (trodAll_cons_mk (Below.trod laidOut (by kernel_rfl) (of_decide_eq_true (by kernel_rfl)) k1 bel lt1) (trodAll_cons_mk (shut_int Try.underlying3 w2) trodAll_mk0))), rfl, bel.frame _, fun h => by cases h⟩
theorem over : Rows.btreeRangesRow.holds Try.pinned (OpenSpec.ofChange Rows.btreeRangesSpec) :=
  OpenClaim.holds_of_wide 7 Try.f7 rfl rfl rfl rfl rfl rfl rfl ⟨rfl, rfl, rfl, rfl, rfl⟩ rfl rfl rfl rfl rfl (by kernel_rfl) Try.func7 (by kernel_rfl)
    (of_decide_eq_true (by kernel_rfl)) (by unfold Func.isWrapper; first | (rw [if_pos (by decide +kernel)]; kernel_rfl) | (rw [if_neg (by decide +kernel)]; exact ⟨rfl, rfl⟩))
    (fun os started H enc _ => lifted os started H enc)
end Go.Proofs.Ytcmllllbmgcnlaa.btreeRanges
namespace Go.Proofs.Ytcmllllbmgcnlaa
/-- The statement, under a short name, for the claim. -/
theorem btreeRanges_holds : Rows.BtreeRangesSaid := btreeRanges.over
#print axioms btreeRanges_holds
end Go.Proofs.Ytcmllllbmgcnlaa
