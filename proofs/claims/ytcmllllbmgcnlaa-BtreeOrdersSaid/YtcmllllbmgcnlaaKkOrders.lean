/- BtreeOne, walked. BtreeOrders, walked. The plain law of the tuple package, third part: covers, columns, and the reference's functions. What the reference's Cmp and Head answer. BtreeOrders, walked: two sets that are. The statement BtreeOrders: whatever the input, the law answers true, and the input reads as it did. Conditions: none. -/
import Derived.Test.YtcmllllbmgcnlaaK6
import Derived.Test.YtcmllllbmgcnlaaK1
import Derived.Test.YtcmllllbmgcnlaaRows
import Derived.WalkKit
import Derived.ProofKit
import Derived.OpenShut
import Derived.ShutString
import Derived.ChangeOld
import Derived.Below
import Derived.SizedLaws
import Derived.Test.YtcmllllbmgcnlaaWSized
namespace Go.Proofs.Ytcmllllbmgcnlaa.Tup
open Go.RowKit Go.Lib Go.Shelf Go.Proofs.Ytcmllllbmgcnlaa.F Go.Proofs.YtcmllllbmgcnlaaW.PrintWords Go.Proofs.YtcmllllbmgcnlaaW.PrintLast Go.Proofs.YtcmllllbmgcnlaaW.PrintMore
set_option linter.unusedVariables false
set_option linter.unusedSimpArgs false

set_option maxHeartbeats 2000000 in
set_option maxRecDepth 100000 in
theorem one_no (W : World) (A0 : Option Addr) (c0 : Nat) (o : Tp) (h0 : Sl W A0 c0 o) (ho : ¬ Rt o) (A1 : Option Addr) (c1 n : Nat) (by_ : Int) :
    Calls Try.prog 3 #[.slice A0 o.length c0, .slice A1 n c1, .int .i64 by_] W fun e w' => e = .returned (.bool true) ∧ Below W.heap.size W w' := by
  have hN1 := new_no W A0 c0 o h0 ho
  have HO := Aside0.mk ho
  have H0 := Aside0.mk h0
  clear ho h0
  go_enter Try.func3, Try.ntmps3
  go_wp2_with (first
    | (go_at_call 16; refine hN1.mono ?_; clear hN1; rintro e w1 ⟨rfl, hb1⟩; have HB1 := Aside0.mk hb1; have hN2 := new_no w1 A0 c0 o (H0.out.below hb1) HO.out; clear hb1)
    | (go_at_call 16; refine hN2.mono ?_; clear hN2; rintro e w2 ⟨rfl, hb2⟩; have HS2 := Aside0.mk ((Since.mk HB1.out).step hb2); clear hb2)
    | (go_at_call 17; refine (alive_calls w2).mono ?_; rintro e w3 ⟨rfl, hb3⟩; have HS3 := Aside0.mk (HS2.out.step hb3); clear hb3))
  go_ret
  exact ⟨rfl, HS3.out.b⟩

set_option maxHeartbeats 2000000 in
set_option maxRecDepth 100000 in
theorem one_few (W : World) (A0 : Option Addr) (c0 : Nat) (o : Tp) (h0 : Sl W A0 c0 o) (ho : Rt o) (A1 : Option Addr) (c1 n : Nat) (hn : n = 0 ∨ 1024 < n) (by_ : Int) :
    Calls Try.prog 3 #[.slice A0 o.length c0, .slice A1 n c1, .int .i64 by_] W fun e w' => e = .returned (.bool true) ∧ Below W.heap.size W w' := by
  have hN1 := new_yes W A0 c0 o h0 ho
  have HO := Aside0.mk ho
  have H0 := Aside0.mk h0
  clear ho h0
  have main : ∀ hn' : (n = 0 ∨ ((n : Int) > 1024 ∧ ¬ n = 0)), Calls Try.prog 3 #[.slice A0 o.length c0, .slice A1 n c1, .int .i64 by_] W fun e w' => e = .returned (.bool true) ∧ Below W.heap.size W w' := by
    intro hn'
    rcases hn' with rfl | ⟨h1, h2⟩
    · go_enter Try.func3, Try.ntmps3
      go_wp2_with (first
        | (go_at_call 16; refine hN1.mono ?_; clear hN1; rintro e w1 ⟨hb1, bs1, Ab1, cb1, rt1, rfl, hbs1, hS1⟩; have HB1 := Aside0.mk hb1; have hN2 := new_yes w1 A0 c0 o (H0.out.below hb1) HO.out; clear hb1 hbs1 hS1)
        | (go_at_call 16; refine hN2.mono ?_; clear hN2; rintro e w2 ⟨hb2, bs2, Ab2, cb2, rt2, rfl, hbs2, hS2⟩; have HS2 := Aside0.mk ((Since.mk HB1.out).step hb2); clear hb2 hbs2 hS2)
        | (go_at_call 17; refine (alive_calls w2).mono ?_; rintro e w3 ⟨rfl, hb3⟩; have HS3 := Aside0.mk (HS2.out.step hb3); clear hb3))
      go_ret
      exact ⟨rfl, HS3.out.b⟩
    · have h3 : ((n : Int) == 0) = false := beq_eq_false_iff_ne.2 (by omega)
      go_enter Try.func3, Try.ntmps3
      go_wp2_with (first
        | (go_at_call 16; refine hN1.mono ?_; clear hN1; rintro e w1 ⟨hb1, bs1, Ab1, cb1, rt1, rfl, hbs1, hS1⟩; have HB1 := Aside0.mk hb1; have hN2 := new_yes w1 A0 c0 o (H0.out.below hb1) HO.out; clear hb1 hbs1 hS1)
        | (go_at_call 16; refine hN2.mono ?_; clear hN2; rintro e w2 ⟨hb2, bs2, Ab2, cb2, rt2, rfl, hbs2, hS2⟩; have HS2 := Aside0.mk ((Since.mk HB1.out).step hb2); clear hb2 hbs2 hS2)
        | (go_at_call 17; refine (alive_calls w2).mono ?_; rintro e w3 ⟨rfl, hb3⟩; have HS3 := Aside0.mk (HS2.out.step hb3); clear hb3))
      go_ret
      exact ⟨rfl, HS3.out.b⟩
  exact main (by omega)

theorem tup_some {W : World} {ad : Addr} {n : Nat} {ts : List Tp} (h : Kd.C KT W (some ad) n ts) (i : Nat) (hi : i < ts.length) (x : Tp) (hx : x = ts[i]) : ∃ Ai ci, W.cell? (ad.add i) = some (.slice Ai x.length ci) ∧ Sl W Ai ci x := by
  obtain ⟨ad', Ai, ci, e, h1, h2⟩ := tup_at h i hi
  cases e
  rw [← hx] at h1 h2
  exact ⟨Ai, ci, h1, h2⟩
/-- Where the turning begins. -/
theorem turn_at (b : Int) (n : Nat) (hn : 1 ≤ n ∧ n ≤ 1024) : ∃ m : Nat, (wrap64 (b.tmod (n : Int) + (n : Int))).tmod (n : Int) = (m : Int) ∧ m < n := by
  have h1 := Int.tmod_lt_of_pos b (show (0 : Int) < (n : Int) by omega)
  have h2 : -(n : Int) < b.tmod (n : Int) := by
    have := Int.tmod_lt_of_pos (-b) (show (0 : Int) < (n : Int) by omega)
    rw [Int.neg_tmod] at this
    omega
  have hw : wrap64 (b.tmod (n : Int) + (n : Int)) = b.tmod (n : Int) + (n : Int) := by unfold wrap64; omega
  rw [hw, Int.tmod_eq_emod_of_nonneg (by omega)]
  have h3 := Int.emod_nonneg (b.tmod (n : Int) + (n : Int)) (show (n : Int) ≠ 0 by omega)
  have h4 := Int.emod_lt_of_pos (b.tmod (n : Int) + (n : Int)) (show (0 : Int) < (n : Int) by omega)
  exact ⟨((b.tmod (n : Int) + (n : Int)) % (n : Int)).toNat, by omega, by omega⟩

set_option maxHeartbeats 4000000 in
set_option maxRecDepth 100000 in
theorem one_main (W : World) (A0 : Option Addr) (c0 : Nat) (o : Tp) (h0 : Sl W A0 c0 o) (ho : Rt o) (A1 : Option Addr) (c1 n : Nat) (ls : List Tp) (hls : Kd.C KT W A1 n ls) (hc1 : n ≤ c1) (hn : 1 ≤ n ∧ n ≤ 1024) (by_ : Int) :
    Calls Try.prog 3 #[.slice A0 o.length c0, .slice A1 n c1, .int .i64 by_] W fun e w' => e = .returned (.bool true) ∧ Below W.heap.size W w' := by
  have hN1 := new_yes W A0 c0 o h0 ho
  have HO := Aside0.mk ho
  have H0 := Aside0.mk h0
  have HLS := Aside0.mk hls
  have h1 : ¬ n = 0 := by omega
  have h2 : ¬ (n : Int) > 1024 := by omega
  have h3 : ((n : Int) == 0) = false := beq_eq_false_iff_ne.2 (by omega)
  obtain ⟨m, hm, hmn⟩ := turn_at by_ n hn
  clear ho h0 hls
  go_enter Try.func3, Try.ntmps3
  go_wp2_with (first
    | (go_at_call 16; refine hN1.mono ?_; clear hN1; rintro e w1 ⟨hb1, bs1, Ab1, cb1, rt1, rfl, hbs1, hS1⟩; have HB1 := Aside0.mk hb1; have HBS1 := Aside0.mk hbs1; have HS1 := Aside0.mk hS1; have hN2 := new_yes w1 A0 c0 o (H0.out.below hb1) HO.out; clear hb1 hbs1 hS1)
    | (go_at_call 16; refine hN2.mono ?_; clear hN2; rintro e w2 ⟨hb2, bs2, Ab2, cb2, rt2, rfl, hbs2, hS2⟩; have HB2 := Aside0.mk ((Since.mk HB1.out).step hb2); have HT := Aside0.mk (two_new HS1.out ⟨hb2⟩ hbs2 hS2); have HBS2 := Aside0.mk hbs2; clear hb2 hS2)
    | (go_at_call 17; refine (alive_calls w2).mono ?_; rintro e w3 ⟨rfl, hb3⟩; have HS3 := Aside0.mk (HB2.out.step hb3); have HT3 := Aside0.mk (HT.out.since ⟨hb3⟩); clear hb3))
  go_loopg [53] n (fun gk v53 w' => ∃ i rs1 T1 rs2 T2, v53 = .int .i64 ((i : Nat) : Int) ∧ Aside0 (i + gk = n) ∧ Aside0 (Two w' bs1 bs2 Ab1 cb1 o rs1 T1 Ab2 cb2 o rs2 T2) ∧ Aside0 (T1.io = insAll o [] (ls.take i)) ∧ Aside0 (T2.io = insAll o [] ((List.range i).map fun j => ls.getD (n - 1 - (j + m) % n) [])) ∧ Aside0 (Below W.heap.size W w'))
  case atStart => exact ⟨0, rt1, _, rt2, _, rfl, ⟨by omega⟩, HT3, ⟨by rw [BT.io_mk]; rfl⟩, ⟨by rw [BT.io_mk]; rfl⟩, ⟨HS3.out.b⟩⟩
  case round =>
    obtain ⟨i, rs1, T1, rs2, T2, rfl, HI, HTW, HE1, HE2, HBW⟩ := hrel
    by_cases hi : i < n
    · have hlen : ls.length = n := HLS.out.1
      have hil : i < ls.length := by omega
      obtain ⟨q, hq⟩ : ∃ q, q = n - 1 - (i + m) % n := ⟨_, rfl⟩
      have hmod : (i + m) % n < n := Nat.mod_lt _ (by omega)
      have hql : q < ls.length := by omega
      have hii : (i : Int) < (n : Int) := by omega
      have t1 : ((i : Int) + (m : Int)).tmod (n : Int) = (((i + m) % n : Nat) : Int) := by rw [Int.tmod_eq_emod_of_nonneg (by omega)]; norm_cast
      have t2 : (n : Int) - 1 - (((i + m) % n : Nat) : Int) = (q : Int) := by omega
      obtain ⟨ad, Ai, ci, rfl, hcell, sl⟩ := tup_at (Kd.C_below HLS.out HBW.out) i hil
      have t3 : wrap64 ((n : Int) - 1 - ((i : Int) + (m : Int)) % (n : Int)) = (q : Int) := by
        have e : ((i : Int) + (m : Int)) % (n : Int) = (((i + m) % n : Nat) : Int) := by norm_cast
        rw [e]; unfold wrap64; omega
      have hw1 : IntKind.i64.wrap ((n : Int) - 1) = (n : Int) - 1 := by rw [IntKind.wrap_i64]; omega
      have hw2 : IntKind.i64.wrap ((i : Int) + (m : Int)) = (i : Int) + (m : Int) := by rw [IntKind.wrap_i64]; omega
      have hw3 : IntKind.i64.wrap ((n : Int) - 1 - (((i + m) % n : Nat) : Int)) = (q : Int) := by rw [IntKind.wrap_i64]; omega
      obtain ⟨x, hx⟩ : ∃ x, x = ls[i] := ⟨_, rfl⟩
      obtain ⟨y, hy⟩ : ∃ y, y = ls[q] := ⟨_, rfl⟩
      rw [← hx] at hcell sl
      have HXY := Aside0.mk (And.intro hx hy)
      have h1c := two_ins wr HTW.out Ai ci x sl
      have HQL := Aside0.mk hql
      have HIL := Aside0.mk hil
      have HQE := Aside0.mk hq
      clear hx hy hlen hmod hq sl
      go_wp2_with (first
        | (go_at_call 18; refine h1c.mono ?_; clear h1c; rintro e w4 ⟨rs3, T3, rfl, hT4, hio3, hk4⟩; have HB4 := Aside0.mk (kept_below HBW.out hk4 HBS1.out); have HIO3 := Aside0.mk hio3; obtain ⟨Aq, cq, hcell2, sl2⟩ := tup_some (Kd.C_below HLS.out HB4.out) q HQL.out y HXY.out.2; have h2c := two_ins2 w4 hT4 Aq cq y sl2; clear hT4 hio3 hk4 sl2)
        | (go_at_call 18; refine h2c.mono ?_; clear h2c; rintro e w5 ⟨rs4, T4, rfl, hT5, hio4, hk5⟩; have HB5 := Aside0.mk (kept_below HB4.out hk5 (Nat.le_trans HB1.out.size HBS2.out)); have HT5 := Aside0.mk hT5; have HIO4 := Aside0.mk hio4; clear hT5 hio4 hk5))
      obtain ⟨k2, hk2⟩ : ∃ k2, k2 = gk - 1 := ⟨_, rfl⟩
      go_roundg k2
      case measure => have := HI.out; omega
      case rel => exact ⟨i + 1, rs3, T3, rs4, T4, by go_num, ⟨by have := HI.out; omega⟩, HT5, ⟨by
        rw [HIO3.out, HE1.out, ← insAll_snoc, HXY.out.1, List.take_add_one, List.getElem?_eq_getElem HIL.out]; rfl⟩, ⟨by
        rw [HIO4.out, HE2.out, ← insAll_snoc, List.range_succ, List.map_append]; have hq := HQE.out; rw [HXY.out.2]; simp [← hq, HQL.out]⟩, HB5⟩
    · obtain rfl : i = n := by have := HI.out; omega
      have hlen : ls.length = i := HLS.out.1
      have heq : T1.io = T2.io := by
        rw [HE1.out, HE2.out]
        refine insAll_same HO.out _ _ (by simp; omega) (by simp; omega) fun a => ?_
        rw [List.take_of_length_le (by omega)]
        constructor
        · intro ha
          obtain ⟨j, hj, rfl⟩ := List.getElem_of_mem ha
          refine List.mem_map.2 ⟨(i - 1 - j + (i - m)) % i, List.mem_range.2 (Nat.mod_lt _ (by omega)), ?_⟩
          have e1 : ((i - 1 - j + (i - m)) % i + m) % i = i - 1 - j := by
            rw [Nat.mod_add_mod, show i - 1 - j + (i - m) + m = (i - 1 - j) + i by omega, Nat.add_mod_right, Nat.mod_eq_of_lt (by omega)]
          rw [e1, show i - 1 - (i - 1 - j) = j by omega]
          simp [hj]
        · intro ha
          obtain ⟨j, hj, rfl⟩ := List.mem_map.1 ha
          have hj2 := Nat.mod_lt (j + m) (show 0 < i by omega)
          have hlt : i - 1 - (j + m) % i < ls.length := by omega
          simp [hlt]
      have HEQ := Aside0.mk heq
      have HT1 := Aside0.mk HTW.out.s1
      have HT2 := Aside0.mk HTW.out.s2
      have hL1 := len_calls wr bs1 HTW.out.s1
      have hL2 := len_calls wr bs2 HTW.out.s2
      rw [← heq] at hL2
      obtain ⟨L, hL⟩ : ∃ L, L = T1.io := ⟨_, rfl⟩
      rw [← hL] at hL1 hL2
      have HL := Aside0.mk hL
      have hA1 := all_calls wr (.pointer (some ⟨bs1, 0, none⟩)) ⟨_, rfl⟩
      clear heq hL hlen hm
      go_wp2_with (first
        | (go_at_call 19; refine hL1.mono ?_; clear hL1; rintro e w6 ⟨rfl, rfl⟩)
        | (go_at_call 19; refine hL2.mono ?_; clear hL2; rintro e w6 ⟨rfl, rfl⟩)
        | (go_at_call 22; refine hA1.mono ?_; clear hA1; rintro e w7 ⟨rfl, rfl⟩; have HS7 := Aside0.mk (Since.alloc (Since.refl wr) (.cells #[.pointer (some ⟨bs1, 0, none⟩)] 24)); have hLs := listA_calls _ wr.heap.size bs1 (HT1.out.since HS7.out) ((cell_of_heap (heap_alloc_new wr (.cells #[.pointer (some ⟨bs1, 0, none⟩)] 24)) 0).trans rfl); rw [← HL.out] at hLs)
        | (go_at_call 21; refine hLs.mono ?_; clear hLs; rintro e w8 ⟨A8, c8, rfl, hc8, hF8, hb8⟩; have HS8 := Aside0.mk (HS7.out.step hb8); have HF8 := Aside0.mk hF8; have hA2 := all_calls w8 (.pointer (some ⟨bs2, 0, none⟩)) ⟨_, rfl⟩; clear hF8 hb8)
        | (go_at_call 22; refine hA2.mono ?_; clear hA2; rintro e w9 ⟨rfl, rfl⟩; have HS9 := Aside0.mk (Since.alloc HS8.out (.cells #[.pointer (some ⟨bs2, 0, none⟩)] 24)); have hLt := listA_calls _ w8.heap.size bs2 (HT2.out.since HS9.out) ((cell_of_heap (heap_alloc_new w8 (.cells #[.pointer (some ⟨bs2, 0, none⟩)] 24)) 0).trans rfl); rw [← HEQ.out, ← HL.out] at hLt)
        | (go_at_call 21; refine hLt.mono ?_; clear hLt; rintro e w10 ⟨A10, c10, rfl, hc10, hF10, hb10⟩; have HS10 := Aside0.mk (HS9.out.step hb10); have HF10 := Aside0.mk hF10; have HB10 := Aside0.mk hb10; have hSm := same2_calls A8 c8 L A10 c10 L w10 (Kd.F_now (Kd.F_below (Kd.F_below HF8.out (below_alloc (Below.refl _ _) _)) HB10.out)) hc8 (Kd.F_now HF10.out) hc10 8 (fun t ht => by rw [HL.out] at ht; have := (HT1.out.fit t ht).1; have := HT1.out.rto.1; omega) (by omega) (by rw [HL.out]; have := HT1.out.le; omega); clear hF10 hb10)
        | (go_at_call 20; refine hSm.mono ?_; clear hSm; rintro e w11 ⟨rfl, hd11⟩; have HS11 := Aside0.mk (HS10.out.trans (Since.ofDrawn hd11)); clear hd11))
      go_ret
      exact ⟨by simp, below_then HBW.out HBW.out.size HS11.out.b⟩

theorem one_law_calls {W : World} (A0 : Option Addr) (c0 : Nat) (o : Tp) (h0 : Sl W A0 c0 o) (A1 : Option Addr) (c1 : Nat) (ls : List Tp) (h1 : Rs W A1 c1 ls) (by_ : Int) (hw : (Lit.int .i64 by_).wf = true) (W' : World) (e : W' = W) :
    Calls Try.prog 3 #[.slice A0 o.length c0, .slice A1 ls.length c1, .int .i64 by_] W' fun e w' => e = .returned (.bool true) ∧ Below W.heap.size W w' := by
  subst e
  by_cases ho : Rt o
  · by_cases hn : ls.length = 0 ∨ 1024 < ls.length
    · exact one_few W' A0 c0 o h0 ho A1 c1 _ hn by_
    · exact one_main W' A0 c0 o h0 ho A1 c1 _ ls h1.C h1.le (by omega) by_
  · exact one_no W' A0 c0 o h0 ho A1 c1 _ by_

end Go.Proofs.Ytcmllllbmgcnlaa.Tup

namespace Go.Proofs.Ytcmllllbmgcnlaa.Tup
open Go.RowKit Go.Lib Go.Shelf Go.Proofs.Ytcmllllbmgcnlaa.F Go.Proofs.YtcmllllbmgcnlaaW.PrintWords Go.Proofs.YtcmllllbmgcnlaaW.PrintLast Go.Proofs.YtcmllllbmgcnlaaW.PrintMore
set_option linter.unusedVariables false
set_option linter.unusedSimpArgs false

/-- btree.New, its error's number alone. -/
theorem new_code (W : World) (A0 : Option Addr) (c0 : Nat) (o : Tp) (h0 : Sl W A0 c0 o) (k : Int) (hk : k = if Rt o then 0 else 1) :
    Calls Try.prog 16 #[.slice A0 o.length c0] W fun e w' => ∃ p, e = .returned (.tuple #[.pointer p, .int .i64 k]) ∧ Below W.heap.size W w' := by
  by_cases h : Rt o
  · rw [if_pos h] at hk
    subst hk
    refine (new_yes W A0 c0 o h0 h).mono ?_
    rintro e w' ⟨hb, bs, A, c, rt, rfl, _⟩
    exact ⟨_, rfl, hb⟩
  · rw [if_neg h] at hk
    subst hk
    refine (new_no W A0 c0 o h0 h).mono ?_
    rintro e w' ⟨rfl, hb⟩
    exact ⟨_, rfl, hb⟩

set_option maxHeartbeats 2000000 in
set_option maxRecDepth 100000 in
theorem orders_no1 (W : World) (A0 : Option Addr) (c0 : Nat) (a : Tp) (h0 : Sl W A0 c0 a) (A1 : Option Addr) (c1 : Nat) (b : Tp) (h1 : Sl W A1 c1 b) (A2 : Option Addr) (c2 n : Nat) (ho : ¬ Rt a) :
    Calls Try.prog 4 #[.slice A0 a.length c0, .slice A1 b.length c1, .slice A2 n c2] W fun e w' => e = .returned (.bool true) ∧ Below W.heap.size W w' := by
  have hN1 := new_code W A0 c0 a h0 1 (by rw [if_neg ho])
  obtain ⟨k2, hk2⟩ : ∃ k2 : Int, k2 = if Rt b then 0 else 1 := ⟨_, rfl⟩
  have HK2 := Aside0.mk hk2
  have H1 := Aside0.mk h1
  clear ho h0 h1 hk2
  go_enter Try.func4, Try.ntmps4
  go_wp2_with (first
    | (go_at_call 16; refine hN1.mono ?_; clear hN1; rintro e w1 ⟨p1, rfl, hb1⟩; have HB1 := Aside0.mk hb1; have hN2 := new_code w1 A1 c1 b (H1.out.below hb1) k2 HK2.out; clear hb1)
    | (go_at_call 16; refine hN2.mono ?_; clear hN2; rintro e w2 ⟨p2, rfl, hb2⟩; have HS2 := Aside0.mk ((Since.mk HB1.out).step hb2); clear hb2)
    | (go_at_call 17; refine (alive_calls w2).mono ?_; rintro e w3 ⟨rfl, hb3⟩; have HS3 := Aside0.mk (HS2.out.step hb3); clear hb3))
  go_ret
  exact ⟨rfl, HS3.out.b⟩

set_option maxHeartbeats 2000000 in
set_option maxRecDepth 100000 in
theorem orders_no2 (W : World) (A0 : Option Addr) (c0 : Nat) (a : Tp) (h0 : Sl W A0 c0 a) (A1 : Option Addr) (c1 : Nat) (b : Tp) (h1 : Sl W A1 c1 b) (A2 : Option Addr) (c2 n : Nat) (ha : Rt a) (ho : ¬ Rt b) :
    Calls Try.prog 4 #[.slice A0 a.length c0, .slice A1 b.length c1, .slice A2 n c2] W fun e w' => e = .returned (.bool true) ∧ Below W.heap.size W w' := by
  have hN1 := new_code W A0 c0 a h0 0 (by rw [if_pos ha])
  have HO := Aside0.mk ho
  have H1 := Aside0.mk h1
  clear ho h0 h1 ha
  go_enter Try.func4, Try.ntmps4
  go_wp2_with (first
    | (go_at_call 16; refine hN1.mono ?_; clear hN1; rintro e w1 ⟨p1, rfl, hb1⟩; have HB1 := Aside0.mk hb1; have hN2 := new_code w1 A1 c1 b (H1.out.below hb1) 1 (by rw [if_neg HO.out]); clear hb1)
    | (go_at_call 16; refine hN2.mono ?_; clear hN2; rintro e w2 ⟨p2, rfl, hb2⟩; have HS2 := Aside0.mk ((Since.mk HB1.out).step hb2); clear hb2)
    | (go_at_call 17; refine (alive_calls w2).mono ?_; rintro e w3 ⟨rfl, hb3⟩; have HS3 := Aside0.mk (HS2.out.step hb3); clear hb3))
  go_ret
  exact ⟨rfl, HS3.out.b⟩

set_option maxHeartbeats 2000000 in
set_option maxRecDepth 100000 in
theorem orders_len (W : World) (A0 : Option Addr) (c0 : Nat) (a : Tp) (h0 : Sl W A0 c0 a) (A1 : Option Addr) (c1 : Nat) (b : Tp) (h1 : Sl W A1 c1 b) (A2 : Option Addr) (c2 n : Nat) (ha : Rt a) (hb : Rt b) (hl : a.length ≠ b.length) :
    Calls Try.prog 4 #[.slice A0 a.length c0, .slice A1 b.length c1, .slice A2 n c2] W fun e w' => e = .returned (.bool true) ∧ Below W.heap.size W w' := by
  have hN1 := new_code W A0 c0 a h0 0 (by rw [if_pos ha])
  have HO := Aside0.mk hb
  have H1 := Aside0.mk h1
  have e1 : (a.length == b.length) = false := beq_eq_false_iff_ne.2 hl
  have e2 : (a.length != b.length) = true := bne_iff_ne.2 hl
  have e3 : ((a.length : Int) == (b.length : Int)) = false := beq_eq_false_iff_ne.2 (by omega)
  have e4 : ((a.length : Int) != (b.length : Int)) = true := bne_iff_ne.2 (by omega)
  clear h0 h1 ha hb hl
  go_enter Try.func4, Try.ntmps4
  go_wp2_with (first
    | (go_at_call 16; refine hN1.mono ?_; clear hN1; rintro e w1 ⟨p1, rfl, hb1⟩; have HB1 := Aside0.mk hb1; have hN2 := new_code w1 A1 c1 b (H1.out.below hb1) 0 (by rw [if_pos HO.out]); clear hb1)
    | (go_at_call 16; refine hN2.mono ?_; clear hN2; rintro e w2 ⟨p2, rfl, hb2⟩; have HS2 := Aside0.mk ((Since.mk HB1.out).step hb2); clear hb2)
    | (go_at_call 17; refine (alive_calls w2).mono ?_; rintro e w3 ⟨rfl, hb3⟩; have HS3 := Aside0.mk (HS2.out.step hb3); clear hb3))
  go_ret
  exact ⟨rfl, HS3.out.b⟩

set_option maxHeartbeats 2000000 in
set_option maxRecDepth 100000 in
theorem orders_many (W : World) (A0 : Option Addr) (c0 : Nat) (a : Tp) (h0 : Sl W A0 c0 a) (A1 : Option Addr) (c1 : Nat) (b : Tp) (h1 : Sl W A1 c1 b) (A2 : Option Addr) (c2 n : Nat) (ha : Rt a) (hb : Rt b) (hl : a.length = b.length) (hn : 2000 < n) :
    Calls Try.prog 4 #[.slice A0 a.length c0, .slice A1 b.length c1, .slice A2 n c2] W fun e w' => e = .returned (.bool true) ∧ Below W.heap.size W w' := by
  have hN1 := new_code W A0 c0 a h0 0 (by rw [if_pos ha])
  have HO := Aside0.mk hb
  have H1 := Aside0.mk h1
  have e1 : (a.length == b.length) = true := beq_iff_eq.2 hl
  have e2 : (a.length != b.length) = false := by simp [hl]
  have e3 : ((a.length : Int) != (b.length : Int)) = false := by simp [hl]
  have e5 : decide ((n : Int) > 2000) = true := decide_eq_true (by omega)
  have e6 : (n : Int) > 2000 := by omega
  clear h0 h1 ha hb hl hn
  go_enter Try.func4, Try.ntmps4
  go_wp2_with (first
    | (go_at_call 16; refine hN1.mono ?_; clear hN1; rintro e w1 ⟨p1, rfl, hb1⟩; have HB1 := Aside0.mk hb1; have hN2 := new_code w1 A1 c1 b (H1.out.below hb1) 0 (by rw [if_pos HO.out]); clear hb1)
    | (go_at_call 16; refine hN2.mono ?_; clear hN2; rintro e w2 ⟨p2, rfl, hb2⟩; have HS2 := Aside0.mk ((Since.mk HB1.out).step hb2); clear hb2)
    | (go_at_call 17; refine (alive_calls w2).mono ?_; rintro e w3 ⟨rfl, hb3⟩; have HS3 := Aside0.mk (HS2.out.step hb3); clear hb3))
  go_ret
  exact ⟨rfl, HS3.out.b⟩

/-- The same tuples, in whatever order. -/
structure Like (L M : List Tp) : Prop where
  len : L.length = M.length
  mem : ∀ t, t ∈ L ↔ t ∈ M
theorem like_ans {a b : Tp} (hl : a.length = b.length) {L M : List Tp} (h : Like L M) (t : Tp) : insAns a L t = insAns b M t := by
  unfold insAns
  simp only [hl, h.len, h.mem]
theorem like_to {a b : Tp} (hl : a.length = b.length) {L M : List Tp} (h : Like L M) (t : Tp) : Like (insTo a L t) (insTo b M t) := by
  unfold insTo
  rw [like_ans hl h t]
  split
  · exact ⟨by rw [insO_len, insO_len, h.len], fun x => by rw [insO_mem, insO_mem, h.mem]⟩
  · exact h

end Go.Proofs.Ytcmllllbmgcnlaa.Tup

namespace Go.Proofs.Ytcmllllbmgcnlaa.Tup
open Go.RowKit Go.Proofs.Ytcmllllbmgcnlaa.F Go.Proofs.YtcmllllbmgcnlaaW.PrintWords Go.Proofs.YtcmllllbmgcnlaaW.PrintLast Go.Proofs.YtcmllllbmgcnlaaW.PrintMore
set_option linter.unusedVariables false
set_option linter.unusedSimpArgs false

/-! ### sets of columns as numbers -/
/-- The set of a list of columns, onto a set. -/
def orL : List Int → Nat → Nat
  | [], m => m
  | c :: o, m => orL o (m ||| 2 ^ c.toNat)
/-- How many columns a set below 256 has. -/
def popN (m : Nat) : Nat := ((List.range 8).filter fun j => m.testBit j).length

theorem orL_lt (o : List Int) (hr : ∀ c ∈ o, 0 ≤ c ∧ c < 8) (m : Nat) (hm : m < 256) : orL o m < 256 := by
  induction o generalizing m with
  | nil => exact hm
  | cons c o ih =>
    have h := hr c (by simp)
    exact ih (fun x hx => hr x (by simp [hx])) _ (set_lt m hm c.toNat (by omega))
/-- What Cover answers. -/
def coverS (o : List Int) (cols : Int) : Int × Bool :=
  if Rt o ∧ 0 ≤ cols ∧ cols < 2 ^ o.length then
    if orL (o.take (popN cols.toNat)) 0 = cols.toNat then (((popN cols.toNat : Nat) : Int), true) else (0, false)
  else (0, false)

theorem shr_zero (cols : Int) (h0 : 0 ≤ cols) (n : Nat) (hn : n ≤ 8) : (shr .i64 cols (n : Int) != 0) = !decide (cols < 2 ^ n) := by
  have hb : min ((n : Int)).toNat IntKind.i64.bits = n := by
    rw [Int.toNat_natCast]; have : IntKind.i64.bits = 64 := rfl; omega
  unfold shr
  rw [hb]
  have hp : (0 : Int) < 2 ^ n := Int.pow_pos (by decide)
  by_cases h : cols < 2 ^ n
  · rw [Int.ediv_eq_zero_of_lt h0 h]; simp [h]
  · have : cols / 2 ^ n ≠ 0 := by
      intro e
      have h1 := Int.lt_ediv_add_one_mul_self cols hp
      rw [e] at h1; simp at h1; exact h h1
    simp [h, this]

theorem pow_le_8 (n : Nat) (h : n ≤ 8) : (2 : Int) ^ n ≤ 256 := by
  have h1 : (2 : Nat) ^ n ≤ 256 := Nat.pow_le_pow_right (n := 2) (i := n) (j := 8) (by decide) h
  have e : ((2 ^ n : Nat) : Int) = (2 : Int) ^ n := by simp
  omega

/-! ### the reference -/
theorem has_loop (l : List Int) (x : Int) (hn : l.length ≤ 9223372036854775806) : ∀ (rest pre : List Int) (k : Nat), l = pre ++ rest → rest.length < k →
    vestryref04_Has.l0 k l x (pre.length : Int) = some (decide (x ∈ rest)) := by
  intro rest
  induction rest with
  | nil =>
    intro pre k e hk
    obtain ⟨k, rfl⟩ : ∃ q, k = q + 1 := ⟨k - 1, by omega⟩
    have e' : pre = l := by simpa using e.symm
    subst e'
    simp only [vestryref04_Has.l0]
    rw [if_neg (by omega)]; simp
  | cons c rest ih =>
    intro pre k e hk
    simp only [List.length_cons] at hk
    obtain ⟨k, rfl⟩ : ∃ q, k = q + 1 := ⟨k - 1, by omega⟩
    have hl : l.length = pre.length + (rest.length + 1) := by rw [e]; simp
    have hat := rd_at e
    simp only [vestryref04_Has.l0]
    rw [if_pos (by omega), if_pos (by omega), hat]
    by_cases h : c = x
    · rw [if_pos h]; simp [h]
    · rw [if_neg h, wrap_nat _ (by omega)]
      have key := ih (pre ++ [c]) k (by rw [e]; simp) (by omega)
      simp only [List.length_append, List.length_cons, List.length_nil, Nat.zero_add] at key
      rw [key]
      simp [show ¬ x = c from fun e => h e.symm]
theorem has_is (k : Nat) (l : List Int) (x : Int) (hn : l.length ≤ 9223372036854775806) (hk : l.length < k) : vestryref04_Has.f k l x = some (decide (x ∈ l)) := by
  have := has_loop l x hn l [] k (by simp) hk
  simpa [vestryref04_Has.f] using this

theorem rright_loop (o : List Int) (hn : o.length ≤ 9223372036854775806) : ∀ (d i k : Nat), o.length - i = d → i ≤ o.length → o.length + d + 1 < k → (∀ j : Nat, j < i → (j : Int) ∈ o) →
    vestryref04_Right.l0 k o (i : Int) = some (decide (Rt o)) := by
  intro d
  induction d with
  | zero =>
    intro i k hd hi hk h
    obtain ⟨k, rfl⟩ : ∃ q, k = q + 1 := ⟨k - 1, by omega⟩
    simp only [vestryref04_Right.l0]
    rw [if_neg (by omega)]
    congr 1
    by_cases h8 : o.length ≤ 8
    · rw [decide_eq_true (by omega : (o.length : Int) ≤ 8), decide_eq_true (Rt.of_all h8 (fun j hj => h j (by omega)))]
    · rw [decide_eq_false (by omega : ¬ (o.length : Int) ≤ 8), decide_eq_false (fun hR : Rt o => h8 hR.1)]
  | succ d ih =>
    intro i k hd hi hk h
    obtain ⟨k, rfl⟩ : ∃ q, k = q + 1 := ⟨k - 1, by omega⟩
    simp only [vestryref04_Right.l0]
    rw [if_pos (by omega), has_is k o i hn (by omega)]
    simp only [Option.bind_some, decide_eq_true_eq]
    by_cases hin : (i : Int) ∈ o
    · rw [if_pos hin, wrap_nat _ (by omega)]
      refine ih (i + 1) k (by omega) (by omega) (by omega) (fun j hj => ?_)
      by_cases hji : j = i
      · subst hji; exact hin
      · exact h j (by omega)
    · rw [if_neg hin, decide_eq_false (fun hR : Rt o => hin (hR.all _ (by omega) (by omega)))]
theorem rright_is (k : Nat) (o : List Int) (hn : o.length ≤ 9223372036854775806) (hk : 2 * o.length + 1 < k) : vestryref04_Right.f k o = some (decide (Rt o)) :=
  rright_loop o hn o.length 0 k (by omega) (by omega) (by omega) (fun j hj => by omega)

theorem fits_is (k : Nat) (o a b : List Int) (hn : o.length ≤ 9223372036854775806) (hk : 2 * o.length + 1 < k) : vestryref04_fits.f k o a b = some (decide (Fit o a ∧ Fit o b)) := by
  unfold vestryref04_fits.f
  rw [rright_is k o hn hk]
  simp only [Option.bind_some, decide_eq_true_eq]
  by_cases hR : Rt o
  · rw [if_pos hR]
    by_cases h1 : (a.length : Int) = (o.length : Int)
    · rw [if_pos h1]
      have h1' : a.length = o.length := by omega
      by_cases h2 : b.length = o.length
      · simp [Fit, h1', h2, hR]
      · simp [Fit, h1', h2, hR]; omega
    · rw [if_neg h1, decide_eq_false (fun h => h1 (by rw [h.1.1]))]
  · rw [if_neg hR, decide_eq_false (fun h => hR h.1.2)]

theorem rcmp_loop (o a b : List Int) (ho : o.length ≤ 8) (hr : ∀ c ∈ o, 0 ≤ c ∧ c < (o.length : Int)) (ha : a.length = o.length) (hb : b.length = o.length) : ∀ (rest pre : List Int) (k : Nat), o = pre ++ rest → rest.length < k →
    vestryref04_Cmp.l0 k o a b (pre.length : Int) = some (cmpL rest a b) := by
  intro rest
  induction rest with
  | nil =>
    intro pre k e hk
    obtain ⟨k, rfl⟩ : ∃ q, k = q + 1 := ⟨k - 1, by omega⟩
    have e' : pre = o := by simpa using e.symm
    subst e'
    simp only [vestryref04_Cmp.l0]
    rw [if_neg (by omega)]; rfl
  | cons c rest ih =>
    intro pre k e hk
    simp only [List.length_cons] at hk
    obtain ⟨k, rfl⟩ : ∃ q, k = q + 1 := ⟨k - 1, by omega⟩
    have hl : o.length = pre.length + (rest.length + 1) := by rw [e]; simp
    have hat := rd_at e
    have hmem := hr c (by rw [e]; simp)
    simp only [vestryref04_Cmp.l0]
    rw [if_pos (by omega), if_pos (by omega), hat, if_pos (by omega), if_pos (by omega), if_pos (by omega)]
    simp only [cmpL]
    by_cases h1 : rd a c < rd b c
    · rw [if_pos h1, if_pos h1]
    rw [if_neg h1, if_neg h1]
    by_cases h2 : rd a c > rd b c
    · rw [if_pos h2, if_pos h2]
    rw [if_neg h2, if_neg h2, wrap_nat _ (by omega)]
    have key := ih (pre ++ [c]) k (by rw [e]; simp) (by omega)
    simpa using key
theorem rcmp_is (k : Nat) (o a b : List Int) (hn : o.length ≤ 9223372036854775806) (hk : 2 * o.length + 1 < k) : vestryref04_Cmp.f k o a b = some (cmpS o a b) := by
  unfold vestryref04_Cmp.f cmpS
  rw [fits_is k o a b hn hk]
  simp only [Option.bind_some, decide_eq_true_eq]
  by_cases h : Fit o a ∧ Fit o b
  · rw [if_pos h, if_pos h]
    have := rcmp_loop o a b h.1.2.1 h.1.2.2.1 h.1.1 h.2.1 o [] k (by simp) (by omega)
    simpa using this
  · rw [if_neg h, if_neg h]

theorem rhead_loop (o a b : List Int) (z : Int) (ho : o.length ≤ 8) (hr : ∀ c ∈ o, 0 ≤ c ∧ c < (o.length : Int)) (ha : a.length = o.length) (hb : b.length = o.length) : ∀ (rest pre : List Int) (k : Nat), o = pre ++ rest → 2 * rest.length + 1 < k →
    vestryref04_Head.l0 k o z a b (pre.length : Int) = some (headL (z - pre.length).toNat rest a b) := by
  intro rest
  induction rest with
  | nil =>
    intro pre k e hk
    obtain ⟨k, rfl⟩ : ∃ q, k = q + 2 := ⟨k - 2, by simp at hk; omega⟩
    have e' : pre = o := by simpa using e.symm
    subst e'
    simp only [vestryref04_Head.l0]
    rw [if_neg (by omega)]
    simp only [vestryref04_Head.j1]
    rw [if_neg (by decide)]
    cases (z - (pre.length : Int)).toNat <;> rfl
  | cons c rest ih =>
    intro pre k e hk
    simp only [List.length_cons] at hk
    obtain ⟨k, rfl⟩ : ∃ q, k = q + 2 := ⟨k - 2, by omega⟩
    have hl : o.length = pre.length + (rest.length + 1) := by rw [e]; simp
    have hat := rd_at e
    have hmem := hr c (by rw [e]; simp)
    simp only [vestryref04_Head.l0]
    rw [if_pos (by omega)]
    simp only [vestryref04_Head.j1, decide_eq_true_eq]
    by_cases hz : (pre.length : Int) < z
    · obtain ⟨q, hq⟩ : ∃ q, (z - (pre.length : Int)).toNat = q + 1 := ⟨(z - (pre.length : Int)).toNat - 1, by omega⟩
      rw [if_pos hz, if_pos (by omega), if_pos (by omega), hat, if_pos (by omega), if_pos (by omega), if_pos (by omega), hq]
      simp only [headL]
      by_cases h : rd a c = rd b c
      · rw [if_pos h, wrap_nat _ (by omega)]
        have key := ih (pre ++ [c]) k (by rw [e]; simp) (by omega)
        have hq2 : (z - ((pre ++ [c]).length : Int)).toNat = q := by simp; omega
        rw [hq2] at key
        simp only [List.length_append, List.length_cons, List.length_nil, Nat.zero_add] at key
        rw [key]; simp [h]
      · rw [if_neg h]; simp [h]
    · rw [if_neg hz]
      have : (z - (pre.length : Int)).toNat = 0 := by omega
      rw [this]; rfl
theorem rhead_is (k : Nat) (o : List Int) (z : Int) (a b : List Int) (hn : o.length ≤ 9223372036854775806) (hk : 2 * o.length + 1 < k) : vestryref04_Head.f k o z a b = some (headS o z a b) := by
  unfold vestryref04_Head.f headS
  rw [fits_is k o a b hn hk]
  simp only [Option.bind_some, decide_eq_true_eq]
  by_cases h : Fit o a ∧ Fit o b
  · rw [if_pos h, decide_eq_true h]
    have := rhead_loop o a b z h.1.2.1 h.1.2.2.1 h.1.1 h.2.1 o [] k (by simp) (by omega)
    simpa using this
  · rw [if_neg h, decide_eq_false h]; rfl

/-! ### the reference's Cover -/
/-! ### columns -/
def colsS (l : List Int) : Int × Int := if ∀ c ∈ l, 0 ≤ c ∧ c < 8 then (((orL l 0 : Nat) : Int), 0) else (0, 1)
end Go.Proofs.Ytcmllllbmgcnlaa.Tup

namespace Go.Proofs.Ytcmllllbmgcnlaa.Tup
open Go.RowKit Go.Proofs.Ytcmllllbmgcnlaa.F Go.Proofs.YtcmllllbmgcnlaaW.PrintWords Go.Proofs.YtcmllllbmgcnlaaW.PrintLast Go.Proofs.YtcmllllbmgcnlaaW.PrintMore
set_option linter.unusedVariables false
set_option linter.unusedSimpArgs false

theorem rcmp_calls (A0 : Option Addr) (c0 : Nat) (o : List Int) (A1 : Option Addr) (c1 : Nat) (a : List Int) (A2 : Option Addr) (c2 : Nat) (b : List Int) (w : World) (h0 : Sl w A0 c0 o) (h1 : Sl w A1 c1 a) (h2 : Sl w A2 c2 b) (hn : o.length ≤ 9223372036854775806) :
    Calls Try.prog 24 #[.slice A0 o.length c0, .slice A1 a.length c1, .slice A2 b.length c2] w fun e w' => e = .returned (.int .i64 (cmpS o a b)) ∧ Drawn0 w w' :=
  vestryref04_Cmp.calls (2 * o.length + 2) _ _ o _ _ a _ _ b _ w h0.C h0.le h1.C h1.le h2.C h2.le (rcmp_is _ o a b hn (by omega))
theorem rhead_calls (A0 : Option Addr) (c0 : Nat) (o : List Int) (k : Int) (A1 : Option Addr) (c1 : Nat) (a : List Int) (A2 : Option Addr) (c2 : Nat) (b : List Int) (w : World) (h0 : Sl w A0 c0 o) (h1 : Sl w A1 c1 a) (h2 : Sl w A2 c2 b) (hn : o.length ≤ 9223372036854775806) :
    Calls Try.prog 31 #[.slice A0 o.length c0, .int .i64 k, .slice A1 a.length c1, .slice A2 b.length c2] w fun e w' => e = .returned (.bool (headS o k a b)) ∧ Drawn0 w w' :=
  vestryref04_Head.calls (2 * o.length + 2) _ _ o _ _ _ a _ _ b _ w h0.C h0.le h1.C h1.le h2.C h2.le (rhead_is _ o k a b hn (by omega))
theorem rright_calls (A0 : Option Addr) (c0 : Nat) (o : List Int) (w : World) (h0 : Sl w A0 c0 o) (hn : o.length ≤ 9223372036854775806) :
    Calls Try.prog 43 #[.slice A0 o.length c0] w fun e w' => e = .returned (.bool (decide (Rt o))) ∧ Drawn0 w w' :=
  vestryref04_Right.calls (2 * o.length + 2) _ _ o _ w h0.C h0.le (rright_is _ o hn (by omega))

end Go.Proofs.Ytcmllllbmgcnlaa.Tup

namespace Go.Proofs.Ytcmllllbmgcnlaa.Tup
open Go.RowKit Go.Lib Go.Shelf Go.Proofs.Ytcmllllbmgcnlaa.F Go.Proofs.YtcmllllbmgcnlaaW.PrintWords Go.Proofs.YtcmllllbmgcnlaaW.PrintLast Go.Proofs.YtcmllllbmgcnlaaW.PrintMore
set_option linter.unusedVariables false
set_option linter.unusedSimpArgs false

/-- Insert into the first of two, its answer by name. -/
theorem two_insA (W : World) {b1 b2 : Nat} {A1 : Option Addr} {c1 : Nat} {o1 : Tp} {r1 : Nat} {T1 : BT} {A2 : Option Addr} {c2 : Nat} {o2 : Tp} {r2 : Nat} {T2 : BT} (h : Two W b1 b2 A1 c1 o1 r1 T1 A2 c2 o2 r2 T2) (At : Option Addr) (ct : Nat) (t : Tp) (st : Sl W At ct t) (r : Bool) (k : Int) (hr : (insAns o1 T1.io t).1 = r) (hk : ((insAns o1 T1.io t).2 : Int) = k) :
    Calls Try.prog 18 #[.pointer (some ⟨b1, 0, none⟩), .slice At t.length ct] W fun e w' => e = .returned (.tuple #[.bool r, .int .i64 k]) ∧ ∃ r T, Two w' b1 b2 A1 c1 o1 r T A2 c2 o2 r2 T2 ∧ T.io = insTo o1 T1.io t ∧ Kept1 b1 W w' := by
  subst hr hk
  refine (two_ins W h At ct t st).mono ?_
  rintro e w' ⟨r, T, rfl, h⟩
  exact ⟨rfl, r, T, h⟩
theorem two_insB (W : World) {b1 b2 : Nat} {A1 : Option Addr} {c1 : Nat} {o1 : Tp} {r1 : Nat} {T1 : BT} {A2 : Option Addr} {c2 : Nat} {o2 : Tp} {r2 : Nat} {T2 : BT} (h : Two W b1 b2 A1 c1 o1 r1 T1 A2 c2 o2 r2 T2) (At : Option Addr) (ct : Nat) (t : Tp) (st : Sl W At ct t) (r : Bool) (k : Int) (hr : (insAns o2 T2.io t).1 = r) (hk : ((insAns o2 T2.io t).2 : Int) = k) :
    Calls Try.prog 18 #[.pointer (some ⟨b2, 0, none⟩), .slice At t.length ct] W fun e w' => e = .returned (.tuple #[.bool r, .int .i64 k]) ∧ ∃ r T, Two w' b1 b2 A1 c1 o1 r1 T1 A2 c2 o2 r T ∧ T.io = insTo o2 T2.io t ∧ Kept1 b2 W w' := by
  refine (two_insA W h.symm At ct t st r k hr hk).mono ?_
  rintro e w' ⟨rfl, r, T, hT, hio, hk⟩
  exact ⟨rfl, r, T, hT.symm, hio, hk⟩

set_option maxHeartbeats 4000000 in
set_option maxRecDepth 100000 in
theorem orders_main (W : World) (A0 : Option Addr) (c0 : Nat) (a : Tp) (h0 : Sl W A0 c0 a) (A1 : Option Addr) (c1 : Nat) (b : Tp) (h1 : Sl W A1 c1 b) (A2 : Option Addr) (c2 n : Nat) (ha : Rt a) (hb : Rt b) (hl : a.length = b.length) (ls : List Tp) (hls : Kd.C KT W A2 n ls) (hc2 : n ≤ c2) (hn : n ≤ 2000) :
    Calls Try.prog 4 #[.slice A0 a.length c0, .slice A1 b.length c1, .slice A2 n c2] W fun e w' => e = .returned (.bool true) ∧ Below W.heap.size W w' := by
  have hN1 := new_yes W A0 c0 a h0 ha
  have HA := Aside0.mk ha
  have HO := Aside0.mk hb
  have H0 := Aside0.mk h0
  have H1 := Aside0.mk h1
  have HLS := Aside0.mk hls
  have HEL := Aside0.mk hl
  have e1 : (a.length == b.length) = true := beq_iff_eq.2 hl
  have e2 : (a.length != b.length) = false := by simp [hl]
  have e3 : ((a.length : Int) != (b.length : Int)) = false := by simp [hl]
  have e5 : decide ((n : Int) > 2000) = false := decide_eq_false (by omega)
  have e6 : ¬ (n : Int) > 2000 := by omega
  clear h0 h1 ha hb hl hls
  go_enter Try.func4, Try.ntmps4
  go_wp2_with (first
    | (go_at_call 16; refine hN1.mono ?_; clear hN1; rintro e w1 ⟨hb1, bs1, Ab1, cb1, rt1, rfl, hbs1, hS1⟩; have HB1 := Aside0.mk hb1; have HBS1 := Aside0.mk hbs1; have HS1 := Aside0.mk hS1; have hN2 := new_yes w1 A1 c1 b (H1.out.below hb1) HO.out; clear hb1 hbs1 hS1)
    | (go_at_call 16; refine hN2.mono ?_; clear hN2; rintro e w2 ⟨hb2, bs2, Ab2, cb2, rt2, rfl, hbs2, hS2⟩; have HB2 := Aside0.mk ((Since.mk HB1.out).step hb2); have HT := Aside0.mk (two_new HS1.out ⟨hb2⟩ hbs2 hS2); have HBS2 := Aside0.mk hbs2; clear hb2 hS2 hbs2)
    | (go_at_call 17; refine (alive_calls w2).mono ?_; rintro e w3 ⟨rfl, hb3⟩; have HS3 := Aside0.mk (HB2.out.step hb3); have HT3 := Aside0.mk (HT.out.since ⟨hb3⟩); clear hb3))
  go_loopg [55] n (fun gk v55 w' => ∃ i rs1 T1 rs2 T2, v55 = .int .i64 ((i : Nat) : Int) ∧ Aside0 (i + gk = n) ∧ Aside0 (Two w' bs1 bs2 Ab1 cb1 a rs1 T1 Ab2 cb2 b rs2 T2) ∧ Aside0 (Like T1.io T2.io) ∧ Aside0 (Below W.heap.size W w'))
  case atStart => exact ⟨0, rt1, _, rt2, _, rfl, ⟨by omega⟩, HT3, ⟨⟨rfl, fun _ => Iff.rfl⟩⟩, ⟨HS3.out.b⟩⟩
  case round =>
    obtain ⟨i, rs1, T1, rs2, T2, rfl, HI, HTW, HLK, HBW⟩ := hrel
    by_cases hi : i < n
    · have hlen : ls.length = n := HLS.out.1
      have hil : i < ls.length := by omega
      have hii : (i : Int) < (n : Int) := by omega
      obtain ⟨ad, Ai, ci, rfl, hcW, slW⟩ := tup_at HLS.out i hil
      obtain ⟨x, hx⟩ : ∃ x, x = ls[i] := ⟨_, rfl⟩
      rw [← hx] at hcW slW
      have hcell := pw_cell_below HBW.out hcW
      have sl := slW.below HBW.out
      obtain ⟨r, hr⟩ : ∃ r, (insAns a T1.io x).1 = r := ⟨_, rfl⟩
      obtain ⟨k, hk⟩ : ∃ k, ((insAns a T1.io x).2 : Int) = k := ⟨_, rfl⟩
      have HR := Aside0.mk (And.intro ((congrArg Prod.fst (like_ans HEL.out HLK.out x)).symm.trans hr) ((congrArg (fun p : Bool × Nat => (p.2 : Int)) (like_ans HEL.out HLK.out x)).symm.trans hk))
      have h1c := two_insA wr HTW.out Ai ci x sl r k hr hk
      have SLW := Aside0.mk slW
      have hbb : (r != r) = false := by simp
      have hkk : (k != k) = false := by simp
      clear hx hlen sl hr hk slW hcW
      go_wp2_with (first
        | (go_at_call 18; refine h1c.mono ?_; clear h1c; rintro e w4 ⟨rfl, rs3, T3, hT4, hio3, hk4⟩; have HB4 := Aside0.mk (kept_below HBW.out hk4 HBS1.out); have HIO3 := Aside0.mk hio3; have h2c := two_insB w4 hT4 Ai ci x (SLW.out.below HB4.out) r k HR.out.1 HR.out.2; clear hT4 hio3 hk4)
        | (go_at_call 18; refine h2c.mono ?_; clear h2c; rintro e w5 ⟨rfl, rs4, T4, hT5, hio4, hk5⟩; have HB5 := Aside0.mk (kept_below HB4.out hk5 (Nat.le_trans HB1.out.size HBS2.out)); have HT5 := Aside0.mk hT5; have HIO4 := Aside0.mk hio4; clear hT5 hio4 hk5))
      obtain ⟨k2, hk2⟩ : ∃ k2, k2 = gk - 1 := ⟨_, rfl⟩
      go_roundg k2
      case measure => have := HI.out; omega
      case rel => exact ⟨i + 1, rs3, T3, rs4, T4, by go_num, ⟨by have := HI.out; omega⟩, HT5, ⟨by rw [HIO3.out, HIO4.out]; exact like_to HEL.out HLK.out x⟩, HB5⟩
    · have HT1 := Aside0.mk HTW.out.s1
      have HT2 := Aside0.mk HTW.out.s2
      have hA1 := all_calls wr (.pointer (some ⟨bs1, 0, none⟩)) ⟨_, rfl⟩
      obtain ⟨L, hL⟩ : ∃ L, L = T1.io := ⟨_, rfl⟩
      have HL := Aside0.mk hL
      clear hL
      go_wp2_with (first
        | (go_at_call 22; refine hA1.mono ?_; clear hA1; rintro e w7 ⟨rfl, rfl⟩; have HS7 := Aside0.mk (Since.alloc (Since.refl wr) (.cells #[.pointer (some ⟨bs1, 0, none⟩)] 24)); have hLs := listA_calls _ wr.heap.size bs1 (HT1.out.since HS7.out) ((cell_of_heap (heap_alloc_new wr (.cells #[.pointer (some ⟨bs1, 0, none⟩)] 24)) 0).trans rfl); rw [← HL.out] at hLs)
        | (go_at_call 21; refine hLs.mono ?_; clear hLs; rintro e w8 ⟨A8, c8, rfl, hc8, hF8, hb8⟩; have HS8 := Aside0.mk (HS7.out.step hb8); have HF8 := Aside0.mk hF8; clear hF8 hb8))
      obtain ⟨wo, hwo⟩ : ∃ wo : World, wo = wr := ⟨_, rfl⟩
      subst hwo
      obtain ⟨m, hm⟩ : ∃ m, m = L.length := ⟨_, rfl⟩
      have HM := Aside0.mk hm
      rw [← hm] at hc8
      have hm2 : m ≤ 1024 := by rw [hm, HL.out]; exact HT1.out.le
      rw [← hm]
      clear hm
      go_loopg [85] m (fun gk v85 w' => ∃ j, v85 = .int .i64 ((j : Nat) : Int) ∧ Aside0 (j + gk = m) ∧ Aside0 (Since w8 w'))
      case atStart => exact ⟨0, rfl, ⟨by omega⟩, ⟨Since.refl w8⟩⟩
      case round =>
        obtain ⟨j, rfl, HJ, HSJ⟩ := hrel
        have HSW := Aside0.mk (HS8.out.trans HSJ.out)
        by_cases hj : j < m
        · have hjl : j < L.length := by rw [← HM.out]; exact hj
          have hF8C : Kd.C KT w8 A8 m L := by have := Kd.F_now HF8.out; rwa [← HM.out] at this
          have HFC := Aside0.mk hF8C
          obtain ⟨ad, Ai, ci, rfl, hcW, slW⟩ := tup_at hF8C j hjl
          obtain ⟨x, hx⟩ : ∃ x, x = L[j] := ⟨_, rfl⟩
          rw [← hx] at hcW slW
          have hcell := pw_cell_below HSJ.out.b hcW
          have SLW := Aside0.mk slW
          have hH := has_calls wr bs2 (HT2.out.since HSW.out) Ai ci x (HSJ.out.sl slW)
          rw [decide_eq_true ((HLK.out.mem x).1 (by rw [← HL.out, hx]; exact List.getElem_mem _))] at hH
          have HX := Aside0.mk hx
          have hjj : (j : Int) < (m : Int) := by omega
          clear hx hF8C hcW slW
          by_cases hj0 : j = 0
          · subst hj0
            have hcell0 : wr.cell? ad = some (.slice Ai x.length ci) := by simpa [Addr.add] using hcell
            go_wp2_with (first
              | (go_at_call 23; refine hH.mono ?_; clear hH; rintro e w9 ⟨rfl, hb9⟩; have HS9 := Aside0.mk (HSJ.out.step hb9); clear hb9))
            obtain ⟨k2, hk2⟩ : ∃ k2, k2 = gk - 1 := ⟨_, rfl⟩
            go_roundg k2
            case measure => have := HJ.out; omega
            case rel => exact ⟨0 + 1, by go_num, ⟨by have := HJ.out; omega⟩, HS9⟩
          · obtain ⟨Ap, cp, hpW, slP⟩ := tup_some HFC.out (j - 1) (by omega) _ rfl
            obtain ⟨y, hy⟩ : ∃ y, y = L[j - 1]'(by omega) := ⟨_, rfl⟩
            rw [← hy] at hpW slP
            have HPW := Aside0.mk hpW
            have SLP := Aside0.mk slP
            obtain ⟨q, hq⟩ : ∃ q, q = cmpS a y x := ⟨_, rfl⟩
            have hqn : ¬ q ≥ 0 := by
              have hfy := HT1.out.fit y (by rw [← HL.out, hy]; exact List.getElem_mem _)
              have hfx := HT1.out.fit x (by rw [← HL.out, HX.out]; exact List.getElem_mem _)
              have hup : Up a L := by rw [HL.out]; exact HT1.out.up
              have hlt : Lt a (L[j - 1]'(by omega)) (L[j]'hjl) := (List.pairwise_iff_getElem.1 hup) (j - 1) j (by omega) hjl (by omega)
              rw [← hy, ← HX.out] at hlt
              rw [hq, cmpS_fit hfy hfx]
              unfold Lt at hlt
              omega
            have hqd : decide (q ≥ 0) = false := decide_eq_false hqn
            have HQ := Aside0.mk hq
            have hj1 : (j : Int) > 0 := by omega
            have hla : Aside0 (a.length ≤ 9223372036854775806) := ⟨by have := HA.out.1; omega⟩
            clear hpW slP hq hy
            go_wp2_with (first
              | (go_at_call 23; refine hH.mono ?_; clear hH; rintro e w9 ⟨rfl, hb9⟩; have HS9 := Aside0.mk (HSJ.out.step hb9); have HSA := Aside0.mk ((Since.mk HBW.out).trans (HS8.out.trans HS9.out)); have hcp := pw_cell_below HS9.out.b HPW.out; have hC := rcmp_calls A0 c0 a Ap cp y Ai ci x w9 (HSA.out.sl H0.out) (HS9.out.sl SLP.out) (HS9.out.sl SLW.out) hla.out; rw [← HQ.out] at hC; clear hb9)
              | (go_at_call 24; refine hC.mono ?_; clear hC; rintro e w10 ⟨rfl, hd10⟩; have HS10 := Aside0.mk (HS9.out.trans (Since.ofDrawn hd10)); clear hd10))
            obtain ⟨k2, hk2⟩ : ∃ k2, k2 = gk - 1 := ⟨_, rfl⟩
            go_roundg k2
            case measure => have := HJ.out; omega
            case rel => exact ⟨j + 1, by go_num, ⟨by have := HJ.out; omega⟩, HS10⟩
        · obtain rfl : j = m := by have := HJ.out; omega
          have hL1 := len_calls wr bs1 (HT1.out.since HSW.out)
          have hL2 := len_calls wr bs2 (HT2.out.since HSW.out)
          rw [← HLK.out.len, ← HL.out, ← HM.out] at hL2
          rw [← HL.out, ← HM.out] at hL1
          have hL3 := hL1
          go_wp2_with (first
            | (go_at_call 19; refine hL1.mono ?_; clear hL1; rintro e w6 ⟨rfl, rfl⟩)
            | (go_at_call 19; refine hL2.mono ?_; clear hL2; rintro e w6 ⟨rfl, rfl⟩)
            | (go_at_call 19; refine hL3.mono ?_; clear hL3; rintro e w6 ⟨rfl, rfl⟩))
          go_ret
          exact ⟨by simp, below_then HBW.out HBW.out.size HSW.out.b⟩

theorem orders_law_calls {W : World} (A0 : Option Addr) (c0 : Nat) (a : Tp) (h0 : Sl W A0 c0 a) (A1 : Option Addr) (c1 : Nat) (b : Tp) (h1 : Sl W A1 c1 b) (A2 : Option Addr) (c2 : Nat) (ls : List Tp) (h2 : Rs W A2 c2 ls) (W' : World) (e : W' = W) :
    Calls Try.prog 4 #[.slice A0 a.length c0, .slice A1 b.length c1, .slice A2 ls.length c2] W' fun e w' => e = .returned (.bool true) ∧ Below W.heap.size W w' := by
  subst e
  by_cases ha : Rt a
  · by_cases hb : Rt b
    · by_cases hl : a.length = b.length
      · by_cases hn : 2000 < ls.length
        · exact orders_many W' A0 c0 a h0 A1 c1 b h1 A2 c2 _ ha hb hl hn
        · exact orders_main W' A0 c0 a h0 A1 c1 b h1 A2 c2 _ ha hb hl ls h2.C h2.le (by omega)
      · exact orders_len W' A0 c0 a h0 A1 c1 b h1 A2 c2 _ ha hb hl
    · exact orders_no2 W' A0 c0 a h0 A1 c1 b h1 A2 c2 _ ha hb
  · exact orders_no1 W' A0 c0 a h0 A1 c1 b h1 A2 c2 _ ha

end Go.Proofs.Ytcmllllbmgcnlaa.Tup

namespace Go.Proofs.Ytcmllllbmgcnlaa.btreeOrders
open Go.ChangeShapes Go.WideShapes Go.ChangeAt Go.RowKit Go.Proofs.YtcmllllbmgcnlaaW Go.Proofs.Ytcmllllbmgcnlaa.Tup
open Go.ChangeMaps (open_string shut_string)
set_option linter.unusedVariables false
theorem own : ownKnob Try.prog.godebug = none := by kernel_rfl
theorem laidOut : laidOutB Try.prog = true := by kernel_rfl
set_option maxRecDepth 100000 in
theorem lifted (os : Os) (started : os.Started) (H : Type) (enc : TypeId × Value → H) :
    ReturnsInHanded {} Try.checked os 4 .any (Rows.btreeOrdersSpec.pre6 enc Try.prog Try.f4 Rows.btreeOrdersRow.domain false) (Rows.btreeOrdersSpec.post enc Try.prog Try.f4 false true false false) := by
  refine returnsInHanded_of_change_sized (C := Try.checked) own started (by kernel_rfl) Try.func4
    (ChangeSpec.witness6 (enc := enc) (C := Try.checked) false ⟨#[], #[.slice none 0 0, .slice none 0 0, .slice none 0 0], []⟩ 8 (by kernel_rfl) (by kernel_rfl) (by kernel_rfl) (by kernel_rfl)) ?_
  intro W base args ds gs before hval0 hW hcnd hsz0 _
  have hsz : (DataW.weightsEach Try.prog (Try.f4.params.toList ++ Rows.btreeOrdersSpec.plain.varTypes Try.prog) (ds ++ gs)).all (· ≤ reachBytes) = true := hsz0
  have hval : ∀ (j : Nat) t v, Try.f4.params[j]? = some t → args[j]? = some v → Value.okWide Try.prog W .any base t v := hval0
  have hW' := hW
  obtain ⟨p, q, hA0, hV, rfl, hfz, hnd⟩ := hW
  have hA : DataW.TrodAll enc Try.prog W 0 (fun _ => true) true Try.f4.params.toList args.toList ds p := hA0
  rw [Try.params4] at hA hval hsz
  obtain ⟨v0, vs0, d0, ds0, p0, q0, hargs, rfl, rfl, h0, r0⟩ := trodAll_cons hA
  obtain ⟨v1, vs1, d1, ds1, p1, q1, rfl, rfl, rfl, h1, r1⟩ := trodAll_cons r0
  obtain ⟨v2, vs2, d2, ds2, p2, q2, rfl, rfl, rfl, h2, r2⟩ := trodAll_cons r1
  obtain ⟨rfl, rfl, rfl⟩ := trodAll_nil r2
  obtain rfl : args = #[v0, v1, v2] := by cases args; simp_all
  obtain ⟨rfl, rfl⟩ := trodVars_none hV
  have k0 := h0
  have lt0 : ∀ x ∈ p0, x.block < W.heap.size := by obtain ⟨m, hm⟩ := k0; exact DataW.trod_lt m _ _ _ hm
  obtain ⟨A0, c0, l0, rfl, s0, f0⟩ := open_sl (hval 0 22 v0 rfl rfl) h0
  have k1 := h1
  have lt1 : ∀ x ∈ p1, x.block < W.heap.size := by obtain ⟨m, hm⟩ := k1; exact DataW.trod_lt m _ _ _ hm
  obtain ⟨A1, c1, l1, rfl, s1, f1⟩ := open_sl (hval 1 22 v1 rfl rfl) h1
  have k2 := h2
  have lt2 : ∀ x ∈ p2, x.block < W.heap.size := by obtain ⟨m, hm⟩ := k2; exact DataW.trod_lt m _ _ _ hm
  obtain ⟨A2, c2, l2, rfl, s2⟩ := open_rows (hval 2 23 v2 rfl rfl) h2
  clear hA0 hval0 hsz0 hsz
  refine (orders_law_calls A0 c0 l0 s0 A1 c1 l1 s1 A2 c2 l2 s2 W rfl).mono fun e W' ⟨he, bel⟩ => ?_
  subst he
  exact ⟨_, rfl, _, _, _, [], _, [], hW', trodAll_mk1 (shut_bool Try.underlying4 _), (trodAll_cons_mk (Below.trod laidOut (by kernel_rfl) (of_decide_eq_true (by kernel_rfl)) k0 bel lt0) (trodAll_cons_mk (Below.trod laidOut (by kernel_rfl) (of_decide_eq_true (by kernel_rfl)) k1 bel lt1) (trodAll_cons_mk (Below.trod laidOut (by kernel_rfl) (of_decide_eq_true (by kernel_rfl)) k2 bel lt2) trodAll_mk0))), rfl, bel.frame _, fun h => by cases h⟩
theorem over : Rows.btreeOrdersRow.holds Try.pinned (OpenSpec.ofChange Rows.btreeOrdersSpec) :=
  OpenClaim.holds_of_wide 4 Try.f4 rfl rfl rfl rfl rfl rfl rfl ⟨rfl, rfl, rfl, rfl, rfl⟩ rfl rfl rfl rfl rfl (by kernel_rfl) Try.func4 (by kernel_rfl)
    (of_decide_eq_true (by kernel_rfl)) (by unfold Func.isWrapper; first | (rw [if_pos (by decide +kernel)]; kernel_rfl) | (rw [if_neg (by decide +kernel)]; exact ⟨rfl, rfl⟩))
    (fun os started H enc _ => lifted os started H enc)
end Go.Proofs.Ytcmllllbmgcnlaa.btreeOrders
namespace Go.Proofs.Ytcmllllbmgcnlaa
/-- The statement, under a short name, for the claim. -/
theorem btreeOrders_holds : Rows.BtreeOrdersSaid := btreeOrders.over
#print axioms btreeOrders_holds
end Go.Proofs.Ytcmllllbmgcnlaa
