/- BtreeOne, walked. BtreeOrders, walked. The plain law of the tuple package, third part: covers, columns, and the reference's functions. What the reference's Cmp and Head answer. BtreeOrders, walked: two sets that are. BtreeRanges: the plain law, and the walks of what is no set. The reference's set in memory; what at and Has answer. The reference's Has, New. The reference's Insert of a tuple that is new. The reference's New. BtreeOwn: what it leans on; the walks of what is no set. BtreeOwn, walked. A loop over an iterator of tuples within a round of another one; what lies in cells alone. What a set reads lies in cells: other objects may turn. A set that nobody made. -/
import Derived.Test.YtcmllllbmgcnlaaK6
import Derived.Test.YtcmllllbmgcnlaaK1
import Derived.Deep.QuietTactic
import Derived.BigQuiet
namespace Go.Proofs.Ytcmllllbmgcnlaa.Tup
open Go.RowKit Go.Lib Go.Shelf Go.Proofs.Ytcmllllbmgcnlaa.F Go.Proofs.YtcmllllbmgcnlaaW.PrintWords Go.Proofs.YtcmllllbmgcnlaaW.PrintLast Go.Proofs.YtcmllllbmgcnlaaW.PrintMore
set_option linter.unusedVariables false
set_option linter.unusedSimpArgs false

set_option maxHeartbeats 2000000 in
set_option maxRecDepth 100000 in
theorem one_no (W : World) (A0 : Option Addr) (c0 : Nat) (o : Tp) (h0 : Sl W A0 c0 o) (ho : ¬ Rt o) (A1 : Option Addr) (c1 n : Nat) (by_ : Int) :
    Calls Try.prog 3 #[.slice A0 o.length c0, .slice A1 n c1, .int .i64 by_] W fun e w' => e = .returned (.bool true) ∧ Below W.heap.size W w' := by
  have hN1 := new_no W A0 c0 o h0 ho
  have HO := Aside0.mk ho
  have H0 := Aside0.mk h0
  clear ho h0
  go_enter Try.func3, Try.ntmps3
  go_wp2_with (first
    | (go_at_call 16; refine hN1.mono ?_; clear hN1; rintro e w1 ⟨rfl, hb1⟩; have HB1 := Aside0.mk hb1; have hN2 := new_no w1 A0 c0 o (H0.out.below hb1) HO.out; clear hb1)
    | (go_at_call 16; refine hN2.mono ?_; clear hN2; rintro e w2 ⟨rfl, hb2⟩; have HS2 := Aside0.mk ((Since.mk HB1.out).step hb2); clear hb2)
    | (go_at_call 17; refine (alive_calls w2).mono ?_; rintro e w3 ⟨rfl, hb3⟩; have HS3 := Aside0.mk (HS2.out.step hb3); clear hb3))
  go_ret
  exact ⟨rfl, HS3.out.b⟩

set_option maxHeartbeats 2000000 in
set_option maxRecDepth 100000 in
theorem one_few (W : World) (A0 : Option Addr) (c0 : Nat) (o : Tp) (h0 : Sl W A0 c0 o) (ho : Rt o) (A1 : Option Addr) (c1 n : Nat) (hn : n = 0 ∨ 1024 < n) (by_ : Int) :
    Calls Try.prog 3 #[.slice A0 o.length c0, .slice A1 n c1, .int .i64 by_] W fun e w' => e = .returned (.bool true) ∧ Below W.heap.size W w' := by
  have hN1 := new_yes W A0 c0 o h0 ho
  have HO := Aside0.mk ho
  have H0 := Aside0.mk h0
  clear ho h0
  have main : ∀ hn' : (n = 0 ∨ ((n : Int) > 1024 ∧ ¬ n = 0)), Calls Try.prog 3 #[.slice A0 o.length c0, .slice A1 n c1, .int .i64 by_] W fun e w' => e = .returned (.bool true) ∧ Below W.heap.size W w' := by
    intro hn'
    rcases hn' with rfl | ⟨h1, h2⟩
    · go_enter Try.func3, Try.ntmps3
      go_wp2_with (first
        | (go_at_call 16; refine hN1.mono ?_; clear hN1; rintro e w1 ⟨hb1, bs1, Ab1, cb1, rt1, rfl, hbs1, hS1⟩; have HB1 := Aside0.mk hb1; have hN2 := new_yes w1 A0 c0 o (H0.out.below hb1) HO.out; clear hb1 hbs1 hS1)
        | (go_at_call 16; refine hN2.mono ?_; clear hN2; rintro e w2 ⟨hb2, bs2, Ab2, cb2, rt2, rfl, hbs2, hS2⟩; have HS2 := Aside0.mk ((Since.mk HB1.out).step hb2); clear hb2 hbs2 hS2)
        | (go_at_call 17; refine (alive_calls w2).mono ?_; rintro e w3 ⟨rfl, hb3⟩; have HS3 := Aside0.mk (HS2.out.step hb3); clear hb3))
      go_ret
      exact ⟨rfl, HS3.out.b⟩
    · have h3 : ((n : Int) == 0) = false := beq_eq_false_iff_ne.2 (by omega)
      go_enter Try.func3, Try.ntmps3
      go_wp2_with (first
        | (go_at_call 16; refine hN1.mono ?_; clear hN1; rintro e w1 ⟨hb1, bs1, Ab1, cb1, rt1, rfl, hbs1, hS1⟩; have HB1 := Aside0.mk hb1; have hN2 := new_yes w1 A0 c0 o (H0.out.below hb1) HO.out; clear hb1 hbs1 hS1)
        | (go_at_call 16; refine hN2.mono ?_; clear hN2; rintro e w2 ⟨hb2, bs2, Ab2, cb2, rt2, rfl, hbs2, hS2⟩; have HS2 := Aside0.mk ((Since.mk HB1.out).step hb2); clear hb2 hbs2 hS2)
        | (go_at_call 17; refine (alive_calls w2).mono ?_; rintro e w3 ⟨rfl, hb3⟩; have HS3 := Aside0.mk (HS2.out.step hb3); clear hb3))
      go_ret
      exact ⟨rfl, HS3.out.b⟩
  exact main (by omega)

theorem tup_some {W : World} {ad : Addr} {n : Nat} {ts : List Tp} (h : Kd.C KT W (some ad) n ts) (i : Nat) (hi : i < ts.length) (x : Tp) (hx : x = ts[i]) : ∃ Ai ci, W.cell? (ad.add i) = some (.slice Ai x.length ci) ∧ Sl W Ai ci x := by
  obtain ⟨ad', Ai, ci, e, h1, h2⟩ := tup_at h i hi
  cases e
  rw [← hx] at h1 h2
  exact ⟨Ai, ci, h1, h2⟩
/-- Where the turning begins. -/
theorem turn_at (b : Int) (n : Nat) (hn : 1 ≤ n ∧ n ≤ 1024) : ∃ m : Nat, (wrap64 (b.tmod (n : Int) + (n : Int))).tmod (n : Int) = (m : Int) ∧ m < n := by
  have h1 := Int.tmod_lt_of_pos b (show (0 : Int) < (n : Int) by omega)
  have h2 : -(n : Int) < b.tmod (n : Int) := by
    have := Int.tmod_lt_of_pos (-b) (show (0 : Int) < (n : Int) by omega)
    rw [Int.neg_tmod] at this
    omega
  have hw : wrap64 (b.tmod (n : Int) + (n : Int)) = b.tmod (n : Int) + (n : Int) := by unfold wrap64; omega
  rw [hw, Int.tmod_eq_emod_of_nonneg (by omega)]
  have h3 := Int.emod_nonneg (b.tmod (n : Int) + (n : Int)) (show (n : Int) ≠ 0 by omega)
  have h4 := Int.emod_lt_of_pos (b.tmod (n : Int) + (n : Int)) (show (0 : Int) < (n : Int) by omega)
  exact ⟨((b.tmod (n : Int) + (n : Int)) % (n : Int)).toNat, by omega, by omega⟩

set_option maxHeartbeats 4000000 in
set_option maxRecDepth 100000 in
theorem one_main (W : World) (A0 : Option Addr) (c0 : Nat) (o : Tp) (h0 : Sl W A0 c0 o) (ho : Rt o) (A1 : Option Addr) (c1 n : Nat) (ls : List Tp) (hls : Kd.C KT W A1 n ls) (hc1 : n ≤ c1) (hn : 1 ≤ n ∧ n ≤ 1024) (by_ : Int) :
    Calls Try.prog 3 #[.slice A0 o.length c0, .slice A1 n c1, .int .i64 by_] W fun e w' => e = .returned (.bool true) ∧ Below W.heap.size W w' := by
  have hN1 := new_yes W A0 c0 o h0 ho
  have HO := Aside0.mk ho
  have H0 := Aside0.mk h0
  have HLS := Aside0.mk hls
  have h1 : ¬ n = 0 := by omega
  have h2 : ¬ (n : Int) > 1024 := by omega
  have h3 : ((n : Int) == 0) = false := beq_eq_false_iff_ne.2 (by omega)
  obtain ⟨m, hm, hmn⟩ := turn_at by_ n hn
  clear ho h0 hls
  go_enter Try.func3, Try.ntmps3
  go_wp2_with (first
    | (go_at_call 16; refine hN1.mono ?_; clear hN1; rintro e w1 ⟨hb1, bs1, Ab1, cb1, rt1, rfl, hbs1, hS1⟩; have HB1 := Aside0.mk hb1; have HBS1 := Aside0.mk hbs1; have HS1 := Aside0.mk hS1; have hN2 := new_yes w1 A0 c0 o (H0.out.below hb1) HO.out; clear hb1 hbs1 hS1)
    | (go_at_call 16; refine hN2.mono ?_; clear hN2; rintro e w2 ⟨hb2, bs2, Ab2, cb2, rt2, rfl, hbs2, hS2⟩; have HB2 := Aside0.mk ((Since.mk HB1.out).step hb2); have HT := Aside0.mk (two_new HS1.out ⟨hb2⟩ hbs2 hS2); have HBS2 := Aside0.mk hbs2; clear hb2 hS2)
    | (go_at_call 17; refine (alive_calls w2).mono ?_; rintro e w3 ⟨rfl, hb3⟩; have HS3 := Aside0.mk (HB2.out.step hb3); have HT3 := Aside0.mk (HT.out.since ⟨hb3⟩); clear hb3))
  go_loopg [53] n (fun gk v53 w' => ∃ i rs1 T1 rs2 T2, v53 = .int .i64 ((i : Nat) : Int) ∧ Aside0 (i + gk = n) ∧ Aside0 (Two w' bs1 bs2 Ab1 cb1 o rs1 T1 Ab2 cb2 o rs2 T2) ∧ Aside0 (T1.io = insAll o [] (ls.take i)) ∧ Aside0 (T2.io = insAll o [] ((List.range i).map fun j => ls.getD (n - 1 - (j + m) % n) [])) ∧ Aside0 (Below W.heap.size W w'))
  case atStart => exact ⟨0, rt1, _, rt2, _, rfl, ⟨by omega⟩, HT3, ⟨by rw [BT.io_mk]; rfl⟩, ⟨by rw [BT.io_mk]; rfl⟩, ⟨HS3.out.b⟩⟩
  case round =>
    obtain ⟨i, rs1, T1, rs2, T2, rfl, HI, HTW, HE1, HE2, HBW⟩ := hrel
    by_cases hi : i < n
    · have hlen : ls.length = n := HLS.out.1
      have hil : i < ls.length := by omega
      obtain ⟨q, hq⟩ : ∃ q, q = n - 1 - (i + m) % n := ⟨_, rfl⟩
      have hmod : (i + m) % n < n := Nat.mod_lt _ (by omega)
      have hql : q < ls.length := by omega
      have hii : (i : Int) < (n : Int) := by omega
      have t1 : ((i : Int) + (m : Int)).tmod (n : Int) = (((i + m) % n : Nat) : Int) := by rw [Int.tmod_eq_emod_of_nonneg (by omega)]; norm_cast
      have t2 : (n : Int) - 1 - (((i + m) % n : Nat) : Int) = (q : Int) := by omega
      obtain ⟨ad, Ai, ci, rfl, hcell, sl⟩ := tup_at (Kd.C_below HLS.out HBW.out) i hil
      have t3 : wrap64 ((n : Int) - 1 - ((i : Int) + (m : Int)) % (n : Int)) = (q : Int) := by
        have e : ((i : Int) + (m : Int)) % (n : Int) = (((i + m) % n : Nat) : Int) := by norm_cast
        rw [e]; unfold wrap64; omega
      have hw1 : IntKind.i64.wrap ((n : Int) - 1) = (n : Int) - 1 := by rw [IntKind.wrap_i64]; omega
      have hw2 : IntKind.i64.wrap ((i : Int) + (m : Int)) = (i : Int) + (m : Int) := by rw [IntKind.wrap_i64]; omega
      have hw3 : IntKind.i64.wrap ((n : Int) - 1 - (((i + m) % n : Nat) : Int)) = (q : Int) := by rw [IntKind.wrap_i64]; omega
      obtain ⟨x, hx⟩ : ∃ x, x = ls[i] := ⟨_, rfl⟩
      obtain ⟨y, hy⟩ : ∃ y, y = ls[q] := ⟨_, rfl⟩
      rw [← hx] at hcell sl
      have HXY := Aside0.mk (And.intro hx hy)
      have h1c := two_ins wr HTW.out Ai ci x sl
      have HQL := Aside0.mk hql
      have HIL := Aside0.mk hil
      have HQE := Aside0.mk hq
      clear hx hy hlen hmod hq sl
      go_wp2_with (first
        | (go_at_call 18; refine h1c.mono ?_; clear h1c; rintro e w4 ⟨rs3, T3, rfl, hT4, hio3, hk4⟩; have HB4 := Aside0.mk (kept_below HBW.out hk4 HBS1.out); have HIO3 := Aside0.mk hio3; obtain ⟨Aq, cq, hcell2, sl2⟩ := tup_some (Kd.C_below HLS.out HB4.out) q HQL.out y HXY.out.2; have h2c := two_ins2 w4 hT4 Aq cq y sl2; clear hT4 hio3 hk4 sl2)
        | (go_at_call 18; refine h2c.mono ?_; clear h2c; rintro e w5 ⟨rs4, T4, rfl, hT5, hio4, hk5⟩; have HB5 := Aside0.mk (kept_below HB4.out hk5 (Nat.le_trans HB1.out.size HBS2.out)); have HT5 := Aside0.mk hT5; have HIO4 := Aside0.mk hio4; clear hT5 hio4 hk5))
      obtain ⟨k2, hk2⟩ : ∃ k2, k2 = gk - 1 := ⟨_, rfl⟩
      go_roundg k2
      case measure => have := HI.out; omega
      case rel => exact ⟨i + 1, rs3, T3, rs4, T4, by go_num, ⟨by have := HI.out; omega⟩, HT5, ⟨by
        rw [HIO3.out, HE1.out, ← insAll_snoc, HXY.out.1, List.take_add_one, List.getElem?_eq_getElem HIL.out]; rfl⟩, ⟨by
        rw [HIO4.out, HE2.out, ← insAll_snoc, List.range_succ, List.map_append]; have hq := HQE.out; rw [HXY.out.2]; simp [← hq, HQL.out]⟩, HB5⟩
    · obtain rfl : i = n := by have := HI.out; omega
      have hlen : ls.length = i := HLS.out.1
      have heq : T1.io = T2.io := by
        rw [HE1.out, HE2.out]
        refine insAll_same HO.out _ _ (by simp; omega) (by simp; omega) fun a => ?_
        rw [List.take_of_length_le (by omega)]
        constructor
        · intro ha
          obtain ⟨j, hj, rfl⟩ := List.getElem_of_mem ha
          refine List.mem_map.2 ⟨(i - 1 - j + (i - m)) % i, List.mem_range.2 (Nat.mod_lt _ (by omega)), ?_⟩
          have e1 : ((i - 1 - j + (i - m)) % i + m) % i = i - 1 - j := by
            rw [Nat.mod_add_mod, show i - 1 - j + (i - m) + m = (i - 1 - j) + i by omega, Nat.add_mod_right, Nat.mod_eq_of_lt (by omega)]
          rw [e1, show i - 1 - (i - 1 - j) = j by omega]
          simp [hj]
        · intro ha
          obtain ⟨j, hj, rfl⟩ := List.mem_map.1 ha
          have hj2 := Nat.mod_lt (j + m) (show 0 < i by omega)
          have hlt : i - 1 - (j + m) % i < ls.length := by omega
          simp [hlt]
      have HEQ := Aside0.mk heq
      have HT1 := Aside0.mk HTW.out.s1
      have HT2 := Aside0.mk HTW.out.s2
      have hL1 := len_calls wr bs1 HTW.out.s1
      have hL2 := len_calls wr bs2 HTW.out.s2
      rw [← heq] at hL2
      obtain ⟨L, hL⟩ : ∃ L, L = T1.io := ⟨_, rfl⟩
      rw [← hL] at hL1 hL2
      have HL := Aside0.mk hL
      have hA1 := all_calls wr (.pointer (some ⟨bs1, 0, none⟩)) ⟨_, rfl⟩
      clear heq hL hlen hm
      go_wp2_with (first
        | (go_at_call 19; refine hL1.mono ?_; clear hL1; rintro e w6 ⟨rfl, rfl⟩)
        | (go_at_call 19; refine hL2.mono ?_; clear hL2; rintro e w6 ⟨rfl, rfl⟩)
        | (go_at_call 22; refine hA1.mono ?_; clear hA1; rintro e w7 ⟨rfl, rfl⟩; have HS7 := Aside0.mk (Since.alloc (Since.refl wr) (.cells #[.pointer (some ⟨bs1, 0, none⟩)] 24)); have hLs := listA_calls _ wr.heap.size bs1 (HT1.out.since HS7.out) ((cell_of_heap (heap_alloc_new wr (.cells #[.pointer (some ⟨bs1, 0, none⟩)] 24)) 0).trans rfl); rw [← HL.out] at hLs)
        | (go_at_call 21; refine hLs.mono ?_; clear hLs; rintro e w8 ⟨A8, c8, rfl, hc8, hF8, hb8⟩; have HS8 := Aside0.mk (HS7.out.step hb8); have HF8 := Aside0.mk hF8; have hA2 := all_calls w8 (.pointer (some ⟨bs2, 0, none⟩)) ⟨_, rfl⟩; clear hF8 hb8)
        | (go_at_call 22; refine hA2.mono ?_; clear hA2; rintro e w9 ⟨rfl, rfl⟩; have HS9 := Aside0.mk (Since.alloc HS8.out (.cells #[.pointer (some ⟨bs2, 0, none⟩)] 24)); have hLt := listA_calls _ w8.heap.size bs2 (HT2.out.since HS9.out) ((cell_of_heap (heap_alloc_new w8 (.cells #[.pointer (some ⟨bs2, 0, none⟩)] 24)) 0).trans rfl); rw [← HEQ.out, ← HL.out] at hLt)
        | (go_at_call 21; refine hLt.mono ?_; clear hLt; rintro e w10 ⟨A10, c10, rfl, hc10, hF10, hb10⟩; have HS10 := Aside0.mk (HS9.out.step hb10); have HF10 := Aside0.mk hF10; have HB10 := Aside0.mk hb10; have hSm := same2_calls A8 c8 L A10 c10 L w10 (Kd.F_now (Kd.F_below (Kd.F_below HF8.out (below_alloc (Below.refl _ _) _)) HB10.out)) hc8 (Kd.F_now HF10.out) hc10 8 (fun t ht => by rw [HL.out] at ht; have := (HT1.out.fit t ht).1; have := HT1.out.rto.1; omega) (by omega) (by rw [HL.out]; have := HT1.out.le; omega); clear hF10 hb10)
        | (go_at_call 20; refine hSm.mono ?_; clear hSm; rintro e w11 ⟨rfl, hd11⟩; have HS11 := Aside0.mk (HS10.out.trans (Since.ofDrawn hd11)); clear hd11))
      go_ret
      exact ⟨by simp, below_then HBW.out HBW.out.size HS11.out.b⟩

theorem one_law_calls {W : World} (A0 : Option Addr) (c0 : Nat) (o : Tp) (h0 : Sl W A0 c0 o) (A1 : Option Addr) (c1 : Nat) (ls : List Tp) (h1 : Rs W A1 c1 ls) (by_ : Int) (hw : (Lit.int .i64 by_).wf = true) (W' : World) (e : W' = W) :
    Calls Try.prog 3 #[.slice A0 o.length c0, .slice A1 ls.length c1, .int .i64 by_] W' fun e w' => e = .returned (.bool true) ∧ Below W.heap.size W w' := by
  subst e
  by_cases ho : Rt o
  · by_cases hn : ls.length = 0 ∨ 1024 < ls.length
    · exact one_few W' A0 c0 o h0 ho A1 c1 _ hn by_
    · exact one_main W' A0 c0 o h0 ho A1 c1 _ ls h1.C h1.le (by omega) by_
  · exact one_no W' A0 c0 o h0 ho A1 c1 _ by_

end Go.Proofs.Ytcmllllbmgcnlaa.Tup

namespace Go.Proofs.Ytcmllllbmgcnlaa.Tup
open Go.RowKit Go.Lib Go.Shelf Go.Proofs.Ytcmllllbmgcnlaa.F Go.Proofs.YtcmllllbmgcnlaaW.PrintWords Go.Proofs.YtcmllllbmgcnlaaW.PrintLast Go.Proofs.YtcmllllbmgcnlaaW.PrintMore
set_option linter.unusedVariables false
set_option linter.unusedSimpArgs false

/-- btree.New, its error's number alone. -/
theorem new_code (W : World) (A0 : Option Addr) (c0 : Nat) (o : Tp) (h0 : Sl W A0 c0 o) (k : Int) (hk : k = if Rt o then 0 else 1) :
    Calls Try.prog 16 #[.slice A0 o.length c0] W fun e w' => ∃ p, e = .returned (.tuple #[.pointer p, .int .i64 k]) ∧ Below W.heap.size W w' := by
  by_cases h : Rt o
  · rw [if_pos h] at hk
    subst hk
    refine (new_yes W A0 c0 o h0 h).mono ?_
    rintro e w' ⟨hb, bs, A, c, rt, rfl, _⟩
    exact ⟨_, rfl, hb⟩
  · rw [if_neg h] at hk
    subst hk
    refine (new_no W A0 c0 o h0 h).mono ?_
    rintro e w' ⟨rfl, hb⟩
    exact ⟨_, rfl, hb⟩

set_option maxHeartbeats 2000000 in
set_option maxRecDepth 100000 in
theorem orders_no1 (W : World) (A0 : Option Addr) (c0 : Nat) (a : Tp) (h0 : Sl W A0 c0 a) (A1 : Option Addr) (c1 : Nat) (b : Tp) (h1 : Sl W A1 c1 b) (A2 : Option Addr) (c2 n : Nat) (ho : ¬ Rt a) :
    Calls Try.prog 4 #[.slice A0 a.length c0, .slice A1 b.length c1, .slice A2 n c2] W fun e w' => e = .returned (.bool true) ∧ Below W.heap.size W w' := by
  have hN1 := new_code W A0 c0 a h0 1 (by rw [if_neg ho])
  obtain ⟨k2, hk2⟩ : ∃ k2 : Int, k2 = if Rt b then 0 else 1 := ⟨_, rfl⟩
  have HK2 := Aside0.mk hk2
  have H1 := Aside0.mk h1
  clear ho h0 h1 hk2
  go_enter Try.func4, Try.ntmps4
  go_wp2_with (first
    | (go_at_call 16; refine hN1.mono ?_; clear hN1; rintro e w1 ⟨p1, rfl, hb1⟩; have HB1 := Aside0.mk hb1; have hN2 := new_code w1 A1 c1 b (H1.out.below hb1) k2 HK2.out; clear hb1)
    | (go_at_call 16; refine hN2.mono ?_; clear hN2; rintro e w2 ⟨p2, rfl, hb2⟩; have HS2 := Aside0.mk ((Since.mk HB1.out).step hb2); clear hb2)
    | (go_at_call 17; refine (alive_calls w2).mono ?_; rintro e w3 ⟨rfl, hb3⟩; have HS3 := Aside0.mk (HS2.out.step hb3); clear hb3))
  go_ret
  exact ⟨rfl, HS3.out.b⟩

set_option maxHeartbeats 2000000 in
set_option maxRecDepth 100000 in
theorem orders_no2 (W : World) (A0 : Option Addr) (c0 : Nat) (a : Tp) (h0 : Sl W A0 c0 a) (A1 : Option Addr) (c1 : Nat) (b : Tp) (h1 : Sl W A1 c1 b) (A2 : Option Addr) (c2 n : Nat) (ha : Rt a) (ho : ¬ Rt b) :
    Calls Try.prog 4 #[.slice A0 a.length c0, .slice A1 b.length c1, .slice A2 n c2] W fun e w' => e = .returned (.bool true) ∧ Below W.heap.size W w' := by
  have hN1 := new_code W A0 c0 a h0 0 (by rw [if_pos ha])
  have HO := Aside0.mk ho
  have H1 := Aside0.mk h1
  clear ho h0 h1 ha
  go_enter Try.func4, Try.ntmps4
  go_wp2_with (first
    | (go_at_call 16; refine hN1.mono ?_; clear hN1; rintro e w1 ⟨p1, rfl, hb1⟩; have HB1 := Aside0.mk hb1; have hN2 := new_code w1 A1 c1 b (H1.out.below hb1) 1 (by rw [if_neg HO.out]); clear hb1)
    | (go_at_call 16; refine hN2.mono ?_; clear hN2; rintro e w2 ⟨p2, rfl, hb2⟩; have HS2 := Aside0.mk ((Since.mk HB1.out).step hb2); clear hb2)
    | (go_at_call 17; refine (alive_calls w2).mono ?_; rintro e w3 ⟨rfl, hb3⟩; have HS3 := Aside0.mk (HS2.out.step hb3); clear hb3))
  go_ret
  exact ⟨rfl, HS3.out.b⟩

set_option maxHeartbeats 2000000 in
set_option maxRecDepth 100000 in
theorem orders_len (W : World) (A0 : Option Addr) (c0 : Nat) (a : Tp) (h0 : Sl W A0 c0 a) (A1 : Option Addr) (c1 : Nat) (b : Tp) (h1 : Sl W A1 c1 b) (A2 : Option Addr) (c2 n : Nat) (ha : Rt a) (hb : Rt b) (hl : a.length ≠ b.length) :
    Calls Try.prog 4 #[.slice A0 a.length c0, .slice A1 b.length c1, .slice A2 n c2] W fun e w' => e = .returned (.bool true) ∧ Below W.heap.size W w' := by
  have hN1 := new_code W A0 c0 a h0 0 (by rw [if_pos ha])
  have HO := Aside0.mk hb
  have H1 := Aside0.mk h1
  have e1 : (a.length == b.length) = false := beq_eq_false_iff_ne.2 hl
  have e2 : (a.length != b.length) = true := bne_iff_ne.2 hl
  have e3 : ((a.length : Int) == (b.length : Int)) = false := beq_eq_false_iff_ne.2 (by omega)
  have e4 : ((a.length : Int) != (b.length : Int)) = true := bne_iff_ne.2 (by omega)
  clear h0 h1 ha hb hl
  go_enter Try.func4, Try.ntmps4
  go_wp2_with (first
    | (go_at_call 16; refine hN1.mono ?_; clear hN1; rintro e w1 ⟨p1, rfl, hb1⟩; have HB1 := Aside0.mk hb1; have hN2 := new_code w1 A1 c1 b (H1.out.below hb1) 0 (by rw [if_pos HO.out]); clear hb1)
    | (go_at_call 16; refine hN2.mono ?_; clear hN2; rintro e w2 ⟨p2, rfl, hb2⟩; have HS2 := Aside0.mk ((Since.mk HB1.out).step hb2); clear hb2)
    | (go_at_call 17; refine (alive_calls w2).mono ?_; rintro e w3 ⟨rfl, hb3⟩; have HS3 := Aside0.mk (HS2.out.step hb3); clear hb3))
  go_ret
  exact ⟨rfl, HS3.out.b⟩

set_option maxHeartbeats 2000000 in
set_option maxRecDepth 100000 in
theorem orders_many (W : World) (A0 : Option Addr) (c0 : Nat) (a : Tp) (h0 : Sl W A0 c0 a) (A1 : Option Addr) (c1 : Nat) (b : Tp) (h1 : Sl W A1 c1 b) (A2 : Option Addr) (c2 n : Nat) (ha : Rt a) (hb : Rt b) (hl : a.length = b.length) (hn : 2000 < n) :
    Calls Try.prog 4 #[.slice A0 a.length c0, .slice A1 b.length c1, .slice A2 n c2] W fun e w' => e = .returned (.bool true) ∧ Below W.heap.size W w' := by
  have hN1 := new_code W A0 c0 a h0 0 (by rw [if_pos ha])
  have HO := Aside0.mk hb
  have H1 := Aside0.mk h1
  have e1 : (a.length == b.length) = true := beq_iff_eq.2 hl
  have e2 : (a.length != b.length) = false := by simp [hl]
  have e3 : ((a.length : Int) != (b.length : Int)) = false := by simp [hl]
  have e5 : decide ((n : Int) > 2000) = true := decide_eq_true (by omega)
  have e6 : (n : Int) > 2000 := by omega
  clear h0 h1 ha hb hl hn
  go_enter Try.func4, Try.ntmps4
  go_wp2_with (first
    | (go_at_call 16; refine hN1.mono ?_; clear hN1; rintro e w1 ⟨p1, rfl, hb1⟩; have HB1 := Aside0.mk hb1; have hN2 := new_code w1 A1 c1 b (H1.out.below hb1) 0 (by rw [if_pos HO.out]); clear hb1)
    | (go_at_call 16; refine hN2.mono ?_; clear hN2; rintro e w2 ⟨p2, rfl, hb2⟩; have HS2 := Aside0.mk ((Since.mk HB1.out).step hb2); clear hb2)
    | (go_at_call 17; refine (alive_calls w2).mono ?_; rintro e w3 ⟨rfl, hb3⟩; have HS3 := Aside0.mk (HS2.out.step hb3); clear hb3))
  go_ret
  exact ⟨rfl, HS3.out.b⟩

/-- The same tuples, in whatever order. -/
structure Like (L M : List Tp) : Prop where
  len : L.length = M.length
  mem : ∀ t, t ∈ L ↔ t ∈ M
theorem like_ans {a b : Tp} (hl : a.length = b.length) {L M : List Tp} (h : Like L M) (t : Tp) : insAns a L t = insAns b M t := by
  unfold insAns
  simp only [hl, h.len, h.mem]
theorem like_to {a b : Tp} (hl : a.length = b.length) {L M : List Tp} (h : Like L M) (t : Tp) : Like (insTo a L t) (insTo b M t) := by
  unfold insTo
  rw [like_ans hl h t]
  split
  · exact ⟨by rw [insO_len, insO_len, h.len], fun x => by rw [insO_mem, insO_mem, h.mem]⟩
  · exact h

end Go.Proofs.Ytcmllllbmgcnlaa.Tup

namespace Go.Proofs.Ytcmllllbmgcnlaa.Tup
open Go.RowKit Go.Proofs.Ytcmllllbmgcnlaa.F Go.Proofs.YtcmllllbmgcnlaaW.PrintWords Go.Proofs.YtcmllllbmgcnlaaW.PrintLast Go.Proofs.YtcmllllbmgcnlaaW.PrintMore
set_option linter.unusedVariables false
set_option linter.unusedSimpArgs false

/-! ### sets of columns as numbers -/
/-- The set of a list of columns, onto a set. -/
def orL : List Int → Nat → Nat
  | [], m => m
  | c :: o, m => orL o (m ||| 2 ^ c.toNat)
/-- How many columns a set below 256 has. -/
def popN (m : Nat) : Nat := ((List.range 8).filter fun j => m.testBit j).length

theorem orL_lt (o : List Int) (hr : ∀ c ∈ o, 0 ≤ c ∧ c < 8) (m : Nat) (hm : m < 256) : orL o m < 256 := by
  induction o generalizing m with
  | nil => exact hm
  | cons c o ih =>
    have h := hr c (by simp)
    exact ih (fun x hx => hr x (by simp [hx])) _ (set_lt m hm c.toNat (by omega))
/-- What Cover answers. -/
def coverS (o : List Int) (cols : Int) : Int × Bool :=
  if Rt o ∧ 0 ≤ cols ∧ cols < 2 ^ o.length then
    if orL (o.take (popN cols.toNat)) 0 = cols.toNat then (((popN cols.toNat : Nat) : Int), true) else (0, false)
  else (0, false)

theorem shr_zero (cols : Int) (h0 : 0 ≤ cols) (n : Nat) (hn : n ≤ 8) : (shr .i64 cols (n : Int) != 0) = !decide (cols < 2 ^ n) := by
  have hb : min ((n : Int)).toNat IntKind.i64.bits = n := by
    rw [Int.toNat_natCast]; have : IntKind.i64.bits = 64 := rfl; omega
  unfold shr
  rw [hb]
  have hp : (0 : Int) < 2 ^ n := Int.pow_pos (by decide)
  by_cases h : cols < 2 ^ n
  · rw [Int.ediv_eq_zero_of_lt h0 h]; simp [h]
  · have : cols / 2 ^ n ≠ 0 := by
      intro e
      have h1 := Int.lt_ediv_add_one_mul_self cols hp
      rw [e] at h1; simp at h1; exact h h1
    simp [h, this]

theorem pow_le_8 (n : Nat) (h : n ≤ 8) : (2 : Int) ^ n ≤ 256 := by
  have h1 : (2 : Nat) ^ n ≤ 256 := Nat.pow_le_pow_right (n := 2) (i := n) (j := 8) (by decide) h
  have e : ((2 ^ n : Nat) : Int) = (2 : Int) ^ n := by simp
  omega

/-! ### the reference -/
theorem has_loop (l : List Int) (x : Int) (hn : l.length ≤ 9223372036854775806) : ∀ (rest pre : List Int) (k : Nat), l = pre ++ rest → rest.length < k →
    vestryref04_Has.l0 k l x (pre.length : Int) = some (decide (x ∈ rest)) := by
  intro rest
  induction rest with
  | nil =>
    intro pre k e hk
    obtain ⟨k, rfl⟩ : ∃ q, k = q + 1 := ⟨k - 1, by omega⟩
    have e' : pre = l := by simpa using e.symm
    subst e'
    simp only [vestryref04_Has.l0]
    rw [if_neg (by omega)]; simp
  | cons c rest ih =>
    intro pre k e hk
    simp only [List.length_cons] at hk
    obtain ⟨k, rfl⟩ : ∃ q, k = q + 1 := ⟨k - 1, by omega⟩
    have hl : l.length = pre.length + (rest.length + 1) := by rw [e]; simp
    have hat := rd_at e
    simp only [vestryref04_Has.l0]
    rw [if_pos (by omega), if_pos (by omega), hat]
    by_cases h : c = x
    · rw [if_pos h]; simp [h]
    · rw [if_neg h, wrap_nat _ (by omega)]
      have key := ih (pre ++ [c]) k (by rw [e]; simp) (by omega)
      simp only [List.length_append, List.length_cons, List.length_nil, Nat.zero_add] at key
      rw [key]
      simp [show ¬ x = c from fun e => h e.symm]
theorem has_is (k : Nat) (l : List Int) (x : Int) (hn : l.length ≤ 9223372036854775806) (hk : l.length < k) : vestryref04_Has.f k l x = some (decide (x ∈ l)) := by
  have := has_loop l x hn l [] k (by simp) hk
  simpa [vestryref04_Has.f] using this

theorem rright_loop (o : List Int) (hn : o.length ≤ 9223372036854775806) : ∀ (d i k : Nat), o.length - i = d → i ≤ o.length → o.length + d + 1 < k → (∀ j : Nat, j < i → (j : Int) ∈ o) →
    vestryref04_Right.l0 k o (i : Int) = some (decide (Rt o)) := by
  intro d
  induction d with
  | zero =>
    intro i k hd hi hk h
    obtain ⟨k, rfl⟩ : ∃ q, k = q + 1 := ⟨k - 1, by omega⟩
    simp only [vestryref04_Right.l0]
    rw [if_neg (by omega)]
    congr 1
    by_cases h8 : o.length ≤ 8
    · rw [decide_eq_true (by omega : (o.length : Int) ≤ 8), decide_eq_true (Rt.of_all h8 (fun j hj => h j (by omega)))]
    · rw [decide_eq_false (by omega : ¬ (o.length : Int) ≤ 8), decide_eq_false (fun hR : Rt o => h8 hR.1)]
  | succ d ih =>
    intro i k hd hi hk h
    obtain ⟨k, rfl⟩ : ∃ q, k = q + 1 := ⟨k - 1, by omega⟩
    simp only [vestryref04_Right.l0]
    rw [if_pos (by omega), has_is k o i hn (by omega)]
    simp only [Option.bind_some, decide_eq_true_eq]
    by_cases hin : (i : Int) ∈ o
    · rw [if_pos hin, wrap_nat _ (by omega)]
      refine ih (i + 1) k (by omega) (by omega) (by omega) (fun j hj => ?_)
      by_cases hji : j = i
      · subst hji; exact hin
      · exact h j (by omega)
    · rw [if_neg hin, decide_eq_false (fun hR : Rt o => hin (hR.all _ (by omega) (by omega)))]
theorem rright_is (k : Nat) (o : List Int) (hn : o.length ≤ 9223372036854775806) (hk : 2 * o.length + 1 < k) : vestryref04_Right.f k o = some (decide (Rt o)) :=
  rright_loop o hn o.length 0 k (by omega) (by omega) (by omega) (fun j hj => by omega)

theorem fits_is (k : Nat) (o a b : List Int) (hn : o.length ≤ 9223372036854775806) (hk : 2 * o.length + 1 < k) : vestryref04_fits.f k o a b = some (decide (Fit o a ∧ Fit o b)) := by
  unfold vestryref04_fits.f
  rw [rright_is k o hn hk]
  simp only [Option.bind_some, decide_eq_true_eq]
  by_cases hR : Rt o
  · rw [if_pos hR]
    by_cases h1 : (a.length : Int) = (o.length : Int)
    · rw [if_pos h1]
      have h1' : a.length = o.length := by omega
      by_cases h2 : b.length = o.length
      · simp [Fit, h1', h2, hR]
      · simp [Fit, h1', h2, hR]; omega
    · rw [if_neg h1, decide_eq_false (fun h => h1 (by rw [h.1.1]))]
  · rw [if_neg hR, decide_eq_false (fun h => hR h.1.2)]

theorem rcmp_loop (o a b : List Int) (ho : o.length ≤ 8) (hr : ∀ c ∈ o, 0 ≤ c ∧ c < (o.length : Int)) (ha : a.length = o.length) (hb : b.length = o.length) : ∀ (rest pre : List Int) (k : Nat), o = pre ++ rest → rest.length < k →
    vestryref04_Cmp.l0 k o a b (pre.length : Int) = some (cmpL rest a b) := by
  intro rest
  induction rest with
  | nil =>
    intro pre k e hk
    obtain ⟨k, rfl⟩ : ∃ q, k = q + 1 := ⟨k - 1, by omega⟩
    have e' : pre = o := by simpa using e.symm
    subst e'
    simp only [vestryref04_Cmp.l0]
    rw [if_neg (by omega)]; rfl
  | cons c rest ih =>
    intro pre k e hk
    simp only [List.length_cons] at hk
    obtain ⟨k, rfl⟩ : ∃ q, k = q + 1 := ⟨k - 1, by omega⟩
    have hl : o.length = pre.length + (rest.length + 1) := by rw [e]; simp
    have hat := rd_at e
    have hmem := hr c (by rw [e]; simp)
    simp only [vestryref04_Cmp.l0]
    rw [if_pos (by omega), if_pos (by omega), hat, if_pos (by omega), if_pos (by omega), if_pos (by omega)]
    simp only [cmpL]
    by_cases h1 : rd a c < rd b c
    · rw [if_pos h1, if_pos h1]
    rw [if_neg h1, if_neg h1]
    by_cases h2 : rd a c > rd b c
    · rw [if_pos h2, if_pos h2]
    rw [if_neg h2, if_neg h2, wrap_nat _ (by omega)]
    have key := ih (pre ++ [c]) k (by rw [e]; simp) (by omega)
    simpa using key
theorem rcmp_is (k : Nat) (o a b : List Int) (hn : o.length ≤ 9223372036854775806) (hk : 2 * o.length + 1 < k) : vestryref04_Cmp.f k o a b = some (cmpS o a b) := by
  unfold vestryref04_Cmp.f cmpS
  rw [fits_is k o a b hn hk]
  simp only [Option.bind_some, decide_eq_true_eq]
  by_cases h : Fit o a ∧ Fit o b
  · rw [if_pos h, if_pos h]
    have := rcmp_loop o a b h.1.2.1 h.1.2.2.1 h.1.1 h.2.1 o [] k (by simp) (by omega)
    simpa using this
  · rw [if_neg h, if_neg h]

theorem rhead_loop (o a b : List Int) (z : Int) (ho : o.length ≤ 8) (hr : ∀ c ∈ o, 0 ≤ c ∧ c < (o.length : Int)) (ha : a.length = o.length) (hb : b.length = o.length) : ∀ (rest pre : List Int) (k : Nat), o = pre ++ rest → 2 * rest.length + 1 < k →
    vestryref04_Head.l0 k o z a b (pre.length : Int) = some (headL (z - pre.length).toNat rest a b) := by
  intro rest
  induction rest with
  | nil =>
    intro pre k e hk
    obtain ⟨k, rfl⟩ : ∃ q, k = q + 2 := ⟨k - 2, by simp at hk; omega⟩
    have e' : pre = o := by simpa using e.symm
    subst e'
    simp only [vestryref04_Head.l0]
    rw [if_neg (by omega)]
    simp only [vestryref04_Head.j1]
    rw [if_neg (by decide)]
    cases (z - (pre.length : Int)).toNat <;> rfl
  | cons c rest ih =>
    intro pre k e hk
    simp only [List.length_cons] at hk
    obtain ⟨k, rfl⟩ : ∃ q, k = q + 2 := ⟨k - 2, by omega⟩
    have hl : o.length = pre.length + (rest.length + 1) := by rw [e]; simp
    have hat := rd_at e
    have hmem := hr c (by rw [e]; simp)
    simp only [vestryref04_Head.l0]
    rw [if_pos (by omega)]
    simp only [vestryref04_Head.j1, decide_eq_true_eq]
    by_cases hz : (pre.length : Int) < z
    · obtain ⟨q, hq⟩ : ∃ q, (z - (pre.length : Int)).toNat = q + 1 := ⟨(z - (pre.length : Int)).toNat - 1, by omega⟩
      rw [if_pos hz, if_pos (by omega), if_pos (by omega), hat, if_pos (by omega), if_pos (by omega), if_pos (by omega), hq]
      simp only [headL]
      by_cases h : rd a c = rd b c
      · rw [if_pos h, wrap_nat _ (by omega)]
        have key := ih (pre ++ [c]) k (by rw [e]; simp) (by omega)
        have hq2 : (z - ((pre ++ [c]).length : Int)).toNat = q := by simp; omega
        rw [hq2] at key
        simp only [List.length_append, List.length_cons, List.length_nil, Nat.zero_add] at key
        rw [key]; simp [h]
      · rw [if_neg h]; simp [h]
    · rw [if_neg hz]
      have : (z - (pre.length : Int)).toNat = 0 := by omega
      rw [this]; rfl
theorem rhead_is (k : Nat) (o : List Int) (z : Int) (a b : List Int) (hn : o.length ≤ 9223372036854775806) (hk : 2 * o.length + 1 < k) : vestryref04_Head.f k o z a b = some (headS o z a b) := by
  unfold vestryref04_Head.f headS
  rw [fits_is k o a b hn hk]
  simp only [Option.bind_some, decide_eq_true_eq]
  by_cases h : Fit o a ∧ Fit o b
  · rw [if_pos h, decide_eq_true h]
    have := rhead_loop o a b z h.1.2.1 h.1.2.2.1 h.1.1 h.2.1 o [] k (by simp) (by omega)
    simpa using this
  · rw [if_neg h, decide_eq_false h]; rfl

/-! ### the reference's Cover -/
/-! ### columns -/
def colsS (l : List Int) : Int × Int := if ∀ c ∈ l, 0 ≤ c ∧ c < 8 then (((orL l 0 : Nat) : Int), 0) else (0, 1)
end Go.Proofs.Ytcmllllbmgcnlaa.Tup

namespace Go.Proofs.Ytcmllllbmgcnlaa.Tup
open Go.RowKit Go.Proofs.Ytcmllllbmgcnlaa.F Go.Proofs.YtcmllllbmgcnlaaW.PrintWords Go.Proofs.YtcmllllbmgcnlaaW.PrintLast Go.Proofs.YtcmllllbmgcnlaaW.PrintMore
set_option linter.unusedVariables false
set_option linter.unusedSimpArgs false

theorem rcmp_calls (A0 : Option Addr) (c0 : Nat) (o : List Int) (A1 : Option Addr) (c1 : Nat) (a : List Int) (A2 : Option Addr) (c2 : Nat) (b : List Int) (w : World) (h0 : Sl w A0 c0 o) (h1 : Sl w A1 c1 a) (h2 : Sl w A2 c2 b) (hn : o.length ≤ 9223372036854775806) :
    Calls Try.prog 24 #[.slice A0 o.length c0, .slice A1 a.length c1, .slice A2 b.length c2] w fun e w' => e = .returned (.int .i64 (cmpS o a b)) ∧ Drawn0 w w' :=
  vestryref04_Cmp.calls (2 * o.length + 2) _ _ o _ _ a _ _ b _ w h0.C h0.le h1.C h1.le h2.C h2.le (rcmp_is _ o a b hn (by omega))
theorem rhead_calls (A0 : Option Addr) (c0 : Nat) (o : List Int) (k : Int) (A1 : Option Addr) (c1 : Nat) (a : List Int) (A2 : Option Addr) (c2 : Nat) (b : List Int) (w : World) (h0 : Sl w A0 c0 o) (h1 : Sl w A1 c1 a) (h2 : Sl w A2 c2 b) (hn : o.length ≤ 9223372036854775806) :
    Calls Try.prog 31 #[.slice A0 o.length c0, .int .i64 k, .slice A1 a.length c1, .slice A2 b.length c2] w fun e w' => e = .returned (.bool (headS o k a b)) ∧ Drawn0 w w' :=
  vestryref04_Head.calls (2 * o.length + 2) _ _ o _ _ _ a _ _ b _ w h0.C h0.le h1.C h1.le h2.C h2.le (rhead_is _ o k a b hn (by omega))
theorem rright_calls (A0 : Option Addr) (c0 : Nat) (o : List Int) (w : World) (h0 : Sl w A0 c0 o) (hn : o.length ≤ 9223372036854775806) :
    Calls Try.prog 43 #[.slice A0 o.length c0] w fun e w' => e = .returned (.bool (decide (Rt o))) ∧ Drawn0 w w' :=
  vestryref04_Right.calls (2 * o.length + 2) _ _ o _ w h0.C h0.le (rright_is _ o hn (by omega))

end Go.Proofs.Ytcmllllbmgcnlaa.Tup

namespace Go.Proofs.Ytcmllllbmgcnlaa.Tup
open Go.RowKit Go.Lib Go.Shelf Go.Proofs.Ytcmllllbmgcnlaa.F Go.Proofs.YtcmllllbmgcnlaaW.PrintWords Go.Proofs.YtcmllllbmgcnlaaW.PrintLast Go.Proofs.YtcmllllbmgcnlaaW.PrintMore
set_option linter.unusedVariables false
set_option linter.unusedSimpArgs false

/-- Insert into the first of two, its answer by name. -/
theorem two_insA (W : World) {b1 b2 : Nat} {A1 : Option Addr} {c1 : Nat} {o1 : Tp} {r1 : Nat} {T1 : BT} {A2 : Option Addr} {c2 : Nat} {o2 : Tp} {r2 : Nat} {T2 : BT} (h : Two W b1 b2 A1 c1 o1 r1 T1 A2 c2 o2 r2 T2) (At : Option Addr) (ct : Nat) (t : Tp) (st : Sl W At ct t) (r : Bool) (k : Int) (hr : (insAns o1 T1.io t).1 = r) (hk : ((insAns o1 T1.io t).2 : Int) = k) :
    Calls Try.prog 18 #[.pointer (some ⟨b1, 0, none⟩), .slice At t.length ct] W fun e w' => e = .returned (.tuple #[.bool r, .int .i64 k]) ∧ ∃ r T, Two w' b1 b2 A1 c1 o1 r T A2 c2 o2 r2 T2 ∧ T.io = insTo o1 T1.io t ∧ Kept1 b1 W w' := by
  subst hr hk
  refine (two_ins W h At ct t st).mono ?_
  rintro e w' ⟨r, T, rfl, h⟩
  exact ⟨rfl, r, T, h⟩
theorem two_insB (W : World) {b1 b2 : Nat} {A1 : Option Addr} {c1 : Nat} {o1 : Tp} {r1 : Nat} {T1 : BT} {A2 : Option Addr} {c2 : Nat} {o2 : Tp} {r2 : Nat} {T2 : BT} (h : Two W b1 b2 A1 c1 o1 r1 T1 A2 c2 o2 r2 T2) (At : Option Addr) (ct : Nat) (t : Tp) (st : Sl W At ct t) (r : Bool) (k : Int) (hr : (insAns o2 T2.io t).1 = r) (hk : ((insAns o2 T2.io t).2 : Int) = k) :
    Calls Try.prog 18 #[.pointer (some ⟨b2, 0, none⟩), .slice At t.length ct] W fun e w' => e = .returned (.tuple #[.bool r, .int .i64 k]) ∧ ∃ r T, Two w' b1 b2 A1 c1 o1 r1 T1 A2 c2 o2 r T ∧ T.io = insTo o2 T2.io t ∧ Kept1 b2 W w' := by
  refine (two_insA W h.symm At ct t st r k hr hk).mono ?_
  rintro e w' ⟨rfl, r, T, hT, hio, hk⟩
  exact ⟨rfl, r, T, hT.symm, hio, hk⟩

set_option maxHeartbeats 4000000 in
set_option maxRecDepth 100000 in
theorem orders_main (W : World) (A0 : Option Addr) (c0 : Nat) (a : Tp) (h0 : Sl W A0 c0 a) (A1 : Option Addr) (c1 : Nat) (b : Tp) (h1 : Sl W A1 c1 b) (A2 : Option Addr) (c2 n : Nat) (ha : Rt a) (hb : Rt b) (hl : a.length = b.length) (ls : List Tp) (hls : Kd.C KT W A2 n ls) (hc2 : n ≤ c2) (hn : n ≤ 2000) :
    Calls Try.prog 4 #[.slice A0 a.length c0, .slice A1 b.length c1, .slice A2 n c2] W fun e w' => e = .returned (.bool true) ∧ Below W.heap.size W w' := by
  have hN1 := new_yes W A0 c0 a h0 ha
  have HA := Aside0.mk ha
  have HO := Aside0.mk hb
  have H0 := Aside0.mk h0
  have H1 := Aside0.mk h1
  have HLS := Aside0.mk hls
  have HEL := Aside0.mk hl
  have e1 : (a.length == b.length) = true := beq_iff_eq.2 hl
  have e2 : (a.length != b.length) = false := by simp [hl]
  have e3 : ((a.length : Int) != (b.length : Int)) = false := by simp [hl]
  have e5 : decide ((n : Int) > 2000) = false := decide_eq_false (by omega)
  have e6 : ¬ (n : Int) > 2000 := by omega
  clear h0 h1 ha hb hl hls
  go_enter Try.func4, Try.ntmps4
  go_wp2_with (first
    | (go_at_call 16; refine hN1.mono ?_; clear hN1; rintro e w1 ⟨hb1, bs1, Ab1, cb1, rt1, rfl, hbs1, hS1⟩; have HB1 := Aside0.mk hb1; have HBS1 := Aside0.mk hbs1; have HS1 := Aside0.mk hS1; have hN2 := new_yes w1 A1 c1 b (H1.out.below hb1) HO.out; clear hb1 hbs1 hS1)
    | (go_at_call 16; refine hN2.mono ?_; clear hN2; rintro e w2 ⟨hb2, bs2, Ab2, cb2, rt2, rfl, hbs2, hS2⟩; have HB2 := Aside0.mk ((Since.mk HB1.out).step hb2); have HT := Aside0.mk (two_new HS1.out ⟨hb2⟩ hbs2 hS2); have HBS2 := Aside0.mk hbs2; clear hb2 hS2 hbs2)
    | (go_at_call 17; refine (alive_calls w2).mono ?_; rintro e w3 ⟨rfl, hb3⟩; have HS3 := Aside0.mk (HB2.out.step hb3); have HT3 := Aside0.mk (HT.out.since ⟨hb3⟩); clear hb3))
  go_loopg [55] n (fun gk v55 w' => ∃ i rs1 T1 rs2 T2, v55 = .int .i64 ((i : Nat) : Int) ∧ Aside0 (i + gk = n) ∧ Aside0 (Two w' bs1 bs2 Ab1 cb1 a rs1 T1 Ab2 cb2 b rs2 T2) ∧ Aside0 (Like T1.io T2.io) ∧ Aside0 (Below W.heap.size W w'))
  case atStart => exact ⟨0, rt1, _, rt2, _, rfl, ⟨by omega⟩, HT3, ⟨⟨rfl, fun _ => Iff.rfl⟩⟩, ⟨HS3.out.b⟩⟩
  case round =>
    obtain ⟨i, rs1, T1, rs2, T2, rfl, HI, HTW, HLK, HBW⟩ := hrel
    by_cases hi : i < n
    · have hlen : ls.length = n := HLS.out.1
      have hil : i < ls.length := by omega
      have hii : (i : Int) < (n : Int) := by omega
      obtain ⟨ad, Ai, ci, rfl, hcW, slW⟩ := tup_at HLS.out i hil
      obtain ⟨x, hx⟩ : ∃ x, x = ls[i] := ⟨_, rfl⟩
      rw [← hx] at hcW slW
      have hcell := pw_cell_below HBW.out hcW
      have sl := slW.below HBW.out
      obtain ⟨r, hr⟩ : ∃ r, (insAns a T1.io x).1 = r := ⟨_, rfl⟩
      obtain ⟨k, hk⟩ : ∃ k, ((insAns a T1.io x).2 : Int) = k := ⟨_, rfl⟩
      have HR := Aside0.mk (And.intro ((congrArg Prod.fst (like_ans HEL.out HLK.out x)).symm.trans hr) ((congrArg (fun p : Bool × Nat => (p.2 : Int)) (like_ans HEL.out HLK.out x)).symm.trans hk))
      have h1c := two_insA wr HTW.out Ai ci x sl r k hr hk
      have SLW := Aside0.mk slW
      have hbb : (r != r) = false := by simp
      have hkk : (k != k) = false := by simp
      clear hx hlen sl hr hk slW hcW
      go_wp2_with (first
        | (go_at_call 18; refine h1c.mono ?_; clear h1c; rintro e w4 ⟨rfl, rs3, T3, hT4, hio3, hk4⟩; have HB4 := Aside0.mk (kept_below HBW.out hk4 HBS1.out); have HIO3 := Aside0.mk hio3; have h2c := two_insB w4 hT4 Ai ci x (SLW.out.below HB4.out) r k HR.out.1 HR.out.2; clear hT4 hio3 hk4)
        | (go_at_call 18; refine h2c.mono ?_; clear h2c; rintro e w5 ⟨rfl, rs4, T4, hT5, hio4, hk5⟩; have HB5 := Aside0.mk (kept_below HB4.out hk5 (Nat.le_trans HB1.out.size HBS2.out)); have HT5 := Aside0.mk hT5; have HIO4 := Aside0.mk hio4; clear hT5 hio4 hk5))
      obtain ⟨k2, hk2⟩ : ∃ k2, k2 = gk - 1 := ⟨_, rfl⟩
      go_roundg k2
      case measure => have := HI.out; omega
      case rel => exact ⟨i + 1, rs3, T3, rs4, T4, by go_num, ⟨by have := HI.out; omega⟩, HT5, ⟨by rw [HIO3.out, HIO4.out]; exact like_to HEL.out HLK.out x⟩, HB5⟩
    · have HT1 := Aside0.mk HTW.out.s1
      have HT2 := Aside0.mk HTW.out.s2
      have hA1 := all_calls wr (.pointer (some ⟨bs1, 0, none⟩)) ⟨_, rfl⟩
      obtain ⟨L, hL⟩ : ∃ L, L = T1.io := ⟨_, rfl⟩
      have HL := Aside0.mk hL
      clear hL
      go_wp2_with (first
        | (go_at_call 22; refine hA1.mono ?_; clear hA1; rintro e w7 ⟨rfl, rfl⟩; have HS7 := Aside0.mk (Since.alloc (Since.refl wr) (.cells #[.pointer (some ⟨bs1, 0, none⟩)] 24)); have hLs := listA_calls _ wr.heap.size bs1 (HT1.out.since HS7.out) ((cell_of_heap (heap_alloc_new wr (.cells #[.pointer (some ⟨bs1, 0, none⟩)] 24)) 0).trans rfl); rw [← HL.out] at hLs)
        | (go_at_call 21; refine hLs.mono ?_; clear hLs; rintro e w8 ⟨A8, c8, rfl, hc8, hF8, hb8⟩; have HS8 := Aside0.mk (HS7.out.step hb8); have HF8 := Aside0.mk hF8; clear hF8 hb8))
      obtain ⟨wo, hwo⟩ : ∃ wo : World, wo = wr := ⟨_, rfl⟩
      subst hwo
      obtain ⟨m, hm⟩ : ∃ m, m = L.length := ⟨_, rfl⟩
      have HM := Aside0.mk hm
      rw [← hm] at hc8
      have hm2 : m ≤ 1024 := by rw [hm, HL.out]; exact HT1.out.le
      rw [← hm]
      clear hm
      go_loopg [85] m (fun gk v85 w' => ∃ j, v85 = .int .i64 ((j : Nat) : Int) ∧ Aside0 (j + gk = m) ∧ Aside0 (Since w8 w'))
      case atStart => exact ⟨0, rfl, ⟨by omega⟩, ⟨Since.refl w8⟩⟩
      case round =>
        obtain ⟨j, rfl, HJ, HSJ⟩ := hrel
        have HSW := Aside0.mk (HS8.out.trans HSJ.out)
        by_cases hj : j < m
        · have hjl : j < L.length := by rw [← HM.out]; exact hj
          have hF8C : Kd.C KT w8 A8 m L := by have := Kd.F_now HF8.out; rwa [← HM.out] at this
          have HFC := Aside0.mk hF8C
          obtain ⟨ad, Ai, ci, rfl, hcW, slW⟩ := tup_at hF8C j hjl
          obtain ⟨x, hx⟩ : ∃ x, x = L[j] := ⟨_, rfl⟩
          rw [← hx] at hcW slW
          have hcell := pw_cell_below HSJ.out.b hcW
          have SLW := Aside0.mk slW
          have hH := has_calls wr bs2 (HT2.out.since HSW.out) Ai ci x (HSJ.out.sl slW)
          rw [decide_eq_true ((HLK.out.mem x).1 (by rw [← HL.out, hx]; exact List.getElem_mem _))] at hH
          have HX := Aside0.mk hx
          have hjj : (j : Int) < (m : Int) := by omega
          clear hx hF8C hcW slW
          by_cases hj0 : j = 0
          · subst hj0
            have hcell0 : wr.cell? ad = some (.slice Ai x.length ci) := by simpa [Addr.add] using hcell
            go_wp2_with (first
              | (go_at_call 23; refine hH.mono ?_; clear hH; rintro e w9 ⟨rfl, hb9⟩; have HS9 := Aside0.mk (HSJ.out.step hb9); clear hb9))
            obtain ⟨k2, hk2⟩ : ∃ k2, k2 = gk - 1 := ⟨_, rfl⟩
            go_roundg k2
            case measure => have := HJ.out; omega
            case rel => exact ⟨0 + 1, by go_num, ⟨by have := HJ.out; omega⟩, HS9⟩
          · obtain ⟨Ap, cp, hpW, slP⟩ := tup_some HFC.out (j - 1) (by omega) _ rfl
            obtain ⟨y, hy⟩ : ∃ y, y = L[j - 1]'(by omega) := ⟨_, rfl⟩
            rw [← hy] at hpW slP
            have HPW := Aside0.mk hpW
            have SLP := Aside0.mk slP
            obtain ⟨q, hq⟩ : ∃ q, q = cmpS a y x := ⟨_, rfl⟩
            have hqn : ¬ q ≥ 0 := by
              have hfy := HT1.out.fit y (by rw [← HL.out, hy]; exact List.getElem_mem _)
              have hfx := HT1.out.fit x (by rw [← HL.out, HX.out]; exact List.getElem_mem _)
              have hup : Up a L := by rw [HL.out]; exact HT1.out.up
              have hlt : Lt a (L[j - 1]'(by omega)) (L[j]'hjl) := (List.pairwise_iff_getElem.1 hup) (j - 1) j (by omega) hjl (by omega)
              rw [← hy, ← HX.out] at hlt
              rw [hq, cmpS_fit hfy hfx]
              unfold Lt at hlt
              omega
            have hqd : decide (q ≥ 0) = false := decide_eq_false hqn
            have HQ := Aside0.mk hq
            have hj1 : (j : Int) > 0 := by omega
            have hla : Aside0 (a.length ≤ 9223372036854775806) := ⟨by have := HA.out.1; omega⟩
            clear hpW slP hq hy
            go_wp2_with (first
              | (go_at_call 23; refine hH.mono ?_; clear hH; rintro e w9 ⟨rfl, hb9⟩; have HS9 := Aside0.mk (HSJ.out.step hb9); have HSA := Aside0.mk ((Since.mk HBW.out).trans (HS8.out.trans HS9.out)); have hcp := pw_cell_below HS9.out.b HPW.out; have hC := rcmp_calls A0 c0 a Ap cp y Ai ci x w9 (HSA.out.sl H0.out) (HS9.out.sl SLP.out) (HS9.out.sl SLW.out) hla.out; rw [← HQ.out] at hC; clear hb9)
              | (go_at_call 24; refine hC.mono ?_; clear hC; rintro e w10 ⟨rfl, hd10⟩; have HS10 := Aside0.mk (HS9.out.trans (Since.ofDrawn hd10)); clear hd10))
            obtain ⟨k2, hk2⟩ : ∃ k2, k2 = gk - 1 := ⟨_, rfl⟩
            go_roundg k2
            case measure => have := HJ.out; omega
            case rel => exact ⟨j + 1, by go_num, ⟨by have := HJ.out; omega⟩, HS10⟩
        · obtain rfl : j = m := by have := HJ.out; omega
          have hL1 := len_calls wr bs1 (HT1.out.since HSW.out)
          have hL2 := len_calls wr bs2 (HT2.out.since HSW.out)
          rw [← HLK.out.len, ← HL.out, ← HM.out] at hL2
          rw [← HL.out, ← HM.out] at hL1
          have hL3 := hL1
          go_wp2_with (first
            | (go_at_call 19; refine hL1.mono ?_; clear hL1; rintro e w6 ⟨rfl, rfl⟩)
            | (go_at_call 19; refine hL2.mono ?_; clear hL2; rintro e w6 ⟨rfl, rfl⟩)
            | (go_at_call 19; refine hL3.mono ?_; clear hL3; rintro e w6 ⟨rfl, rfl⟩))
          go_ret
          exact ⟨by simp, below_then HBW.out HBW.out.size HSW.out.b⟩

theorem orders_law_calls {W : World} (A0 : Option Addr) (c0 : Nat) (a : Tp) (h0 : Sl W A0 c0 a) (A1 : Option Addr) (c1 : Nat) (b : Tp) (h1 : Sl W A1 c1 b) (A2 : Option Addr) (c2 : Nat) (ls : List Tp) (h2 : Rs W A2 c2 ls) (W' : World) (e : W' = W) :
    Calls Try.prog 4 #[.slice A0 a.length c0, .slice A1 b.length c1, .slice A2 ls.length c2] W' fun e w' => e = .returned (.bool true) ∧ Below W.heap.size W w' := by
  subst e
  by_cases ha : Rt a
  · by_cases hb : Rt b
    · by_cases hl : a.length = b.length
      · by_cases hn : 2000 < ls.length
        · exact orders_many W' A0 c0 a h0 A1 c1 b h1 A2 c2 _ ha hb hl hn
        · exact orders_main W' A0 c0 a h0 A1 c1 b h1 A2 c2 _ ha hb hl ls h2.C h2.le (by omega)
      · exact orders_len W' A0 c0 a h0 A1 c1 b h1 A2 c2 _ ha hb hl
    · exact orders_no2 W' A0 c0 a h0 A1 c1 b h1 A2 c2 _ ha hb
  · exact orders_no1 W' A0 c0 a h0 A1 c1 b h1 A2 c2 _ ha

end Go.Proofs.Ytcmllllbmgcnlaa.Tup

namespace Go.Proofs.Ytcmllllbmgcnlaa.Tup
open Go.RowKit Go.Lib Go.Shelf Go.Proofs.Ytcmllllbmgcnlaa.F Go.Proofs.YtcmllllbmgcnlaaW.PrintWords Go.Proofs.YtcmllllbmgcnlaaW.PrintLast Go.Proofs.YtcmllllbmgcnlaaW.PrintMore
set_option linter.unusedVariables false
set_option linter.unusedSimpArgs false

theorem sel_drop {o : Tp} {p : Tp → Bool} {L : List Tp} (hu : Up o L) (hp : ∀ x y, x ∈ L → y ∈ L → Lt o x y → p y = true → p x = true) : sel p L = L.dropWhile p := by
  induction L with
  | nil => rfl
  | cons a L ih =>
    unfold Up at hu
    rw [List.pairwise_cons] at hu
    have ih' := ih hu.2 (fun x y hx hy => hp x y (List.mem_cons_of_mem _ hx) (List.mem_cons_of_mem _ hy))
    by_cases h : p a = true
    · rw [List.dropWhile_cons_of_pos h, ← ih']
      simp [sel, h]
    · rw [List.dropWhile_cons_of_neg h]
      refine List.filter_eq_self.2 fun x hx => ?_
      rcases List.mem_cons.1 hx with rfl | hx
      · simpa using h
      · have : ¬ p x = true := fun hpx => h (hp a x (by simp) (List.mem_cons_of_mem _ hx) (hu.1 x hx) hpx)
        simpa using this
theorem cmpL_take {o : Tp} {x y : Tp} (m : Nat) (h : cmpL o x y ≤ 0) : cmpL (o.take m) x y ≤ 0 := by
  induction o generalizing m with
  | nil => simpa using h
  | cons c o ih =>
    cases m with
    | zero => simp [cmpL]
    | succ m =>
      simp only [List.take_succ_cons, cmpL] at h ⊢
      by_cases p1 : rd x c < rd y c
      · rw [if_pos p1]; decide
      · rw [if_neg p1] at h ⊢
        by_cases p2 : rd x c > rd y c
        · rw [if_pos p2] at h; omega
        · rw [if_neg p2] at h ⊢; exact ih m h
theorem head_zero {o x y : Tp} (m : Nat) (h : cmpL (o.take m) x y = 0) : headL m o x y = true := by
  induction o generalizing m with
  | nil => cases m <;> rfl
  | cons c o ih =>
    cases m with
    | zero => rfl
    | succ m =>
      simp only [List.take_succ_cons] at h
      have h' := (cmpL_zero (c :: o.take m) x y).1 h
      have h1 := h' c (by simp)
      have h2 := ih m ((cmpL_zero _ _ _).2 fun d hd => h' d (List.mem_cons_of_mem _ hd))
      simp [headL, h1, h2]
theorem take_end {α : Type} (p : α → Bool) (D : List α) (x : α) (h : D[(D.takeWhile p).length]? = some x) : p x = false := by
  induction D with
  | nil => simp at h
  | cons a D ih =>
    by_cases ha : p a = true
    · rw [List.takeWhile_cons_of_pos ha] at h
      exact ih (by simpa using h)
    · rw [List.takeWhile_cons_of_neg ha] at h
      have : a = x := by simpa using h
      subst this
      simpa using ha
theorem take_yes {α : Type} (p : α → Bool) {D : List α} {x : α} (h : x ∈ D.takeWhile p) : p x = true := by
  induction D with
  | nil => simp at h
  | cons a D ih =>
    by_cases ha : p a = true
    · rw [List.takeWhile_cons_of_pos ha] at h
      rcases List.mem_cons.1 h with rfl | h
      · exact ha
      · exact ih h
    · rw [List.takeWhile_cons_of_neg ha] at h; simp at h
/-- What Range and From give beside one another. -/
theorem ranges_law {o t : Tp} {L : List Tp} (k : Int) (hu : Up o L) (hf : ∀ a ∈ L, Fit o a) (ht : t ∈ L) :
    ∃ d R', rangeL o k t L = d :: R' ∧ d ∈ L ∧ rangeL o k t L <+: fromL o d L ∧ ∀ x, (fromL o d L)[(rangeL o k t L).length]? = some x → headS o k x t = false := by
  have hft := hf t ht
  have e1 : rangeL o k t L = (L.dropWhile (pR o k t)).takeWhile (fun x => headS o k x t) := by
    unfold rangeL
    rw [if_pos hft.1, sel_drop hu fun x y _ _ hxy hy => pR_closed hxy hy]
  have hsplit := List.takeWhile_append_dropWhile (p := pR o k t) (l := L)
  have hA : ∀ x ∈ L.takeWhile (pR o k t), pR o k t x = true := fun x hx => take_yes _ hx
  have htt : pR o k t t = false := by
    have : cmpL (o.take k.toNat) t t = 0 := (cmpL_zero _ _ _).2 fun _ _ => rfl
    simp [pR, this]
  have htD : t ∈ L.dropWhile (pR o k t) := by
    rw [← hsplit] at ht
    rcases List.mem_append.1 ht with h | h
    · rw [hA t h] at htt; cases htt
    · exact h
  obtain ⟨A, hAe⟩ : ∃ A, A = L.takeWhile (pR o k t) := ⟨_, rfl⟩
  obtain ⟨D, hDe⟩ : ∃ D, D = L.dropWhile (pR o k t) := ⟨_, rfl⟩
  rw [← hAe] at hsplit hA
  rw [← hDe] at hsplit htD e1
  have hd0 : ∀ d D', D = d :: D' → pR o k t d = false := by
    intro d D' e
    have h := List.head?_dropWhile_not (pR o k t) L
    rw [← hDe, e] at h
    simpa using h
  cases D with
  | nil => simp at htD
  | cons d D' =>
    have hdp := hd0 d D' rfl
    have huD : Up o (A ++ d :: D') := by rw [hsplit]; exact hu
    unfold Up at huD
    rw [List.pairwise_append, List.pairwise_cons] at huD
    have hdL : d ∈ L := by rw [← hsplit]; simp
    have hfd := hf d hdL
    have hhd : headS o k d t = true := by
      have hle : cmpL o d t ≤ 0 := by
        rcases List.mem_cons.1 htD with rfl | h
        · rw [(cmpL_zero _ _ _).2 fun _ _ => rfl]; decide
        · exact Int.le_of_lt (huD.2.1.1 t h)
      have h2 := cmpL_take k.toNat hle
      have h3 : ¬ cmpL (o.take k.toNat) d t < 0 := by simpa [pR] using hdp
      have h4 := head_zero k.toNat (show cmpL (o.take k.toNat) d t = 0 by omega)
      unfold headS
      rw [decide_eq_true ⟨hfd, hft⟩, h4]; rfl
    have e2 : fromL o d L = d :: D' := by
      unfold fromL
      rw [if_pos hfd.1, sel_drop hu fun x y hx hy hxy hyp => pF_closed hfd (hf x hx) (hf y hy) hxy hyp, ← hsplit]
      have hAll : ∀ x ∈ A, pF o d x = true := fun x hx => by
        have hlt := huD.2.2 x hx d (by simp)
        have hxL : x ∈ L := by rw [← hsplit]; simp [hx]
        unfold pF
        rw [cmpS_fit (hf x hxL) hfd]
        exact decide_eq_true hlt
      have hno : pF o d d = false := by
        unfold pF
        rw [cmpS_fit hfd hfd, (cmpL_zero _ _ _).2 fun _ _ => rfl]; rfl
      rw [List.dropWhile_append_of_pos hAll, List.dropWhile_cons_of_neg (by simp [hno])]
    rw [e1]
    refine ⟨d, D'.takeWhile (fun x => headS o k x t), List.takeWhile_cons_of_pos hhd, hdL, by rw [e2]; exact List.takeWhile_prefix _, fun x hx => ?_⟩
    rw [e2] at hx
    exact take_end (fun x => headS o k x t) _ x hx
theorem range_zero {o key : Tp} {L : List Tp} (hf : ∀ a ∈ L, Fit o a) (hr : Rt o) (hk : key.length = o.length) : rangeL o 0 key L = L := by
  unfold rangeL
  rw [if_pos hk]
  have e : sel (pR o 0 key) L = L := List.filter_eq_self.2 fun x hx => by simp [pR, cmpL]
  rw [e]
  exact take_all _ fun a ha => by unfold headS; rw [decide_eq_true ⟨hf a ha, hk, hr⟩]; cases o <;> rfl

/-- Insert into a set. -/
theorem one_ins (W : World) {bs : Nat} {A : Option Addr} {c : Nat} {o : Tp} {rt : Nat} {T : BT} (h : SetAt (fun k => k ≠ bs) W bs A c o rt T) (At : Option Addr) (ct : Nat) (t : Tp) (st : Sl W At ct t) :
    Calls Try.prog 18 #[.pointer (some ⟨bs, 0, none⟩), .slice At t.length ct] W fun e w' => ∃ r T', e = .returned (.tuple #[.bool (insAns o T.io t).1, .int .i64 ((insAns o T.io t).2 : Int)]) ∧ SetAt (fun k => k ≠ bs) w' bs A c o r T' ∧ T'.io = insTo o T.io t ∧ Kept1 bs W w' := by
  refine (insert_calls W bs h At ct t st (by have := h.rto.1; omega)).mono ?_
  rintro e w' ⟨r, T', rfl, hS, hio, hk⟩
  have l1 := h.lt
  refine ⟨r, T', rfl, hS.mono (fun k hk => ?_) (fun hk => hk rfl), hio, hk⟩
  rcases hk with hk | hk
  · exact hk
  · show k ≠ bs; omega
theorem set_one {W0 W : World} {bs : Nat} {A : Option Addr} {c : Nat} {o : Tp} {rt : Nat} {T : BT} (h : SetAt (fun k => W0.heap.size ≤ k ∧ k < W.heap.size ∧ k ≠ bs) W bs A c o rt T) : SetAt (fun k => k ≠ bs) W bs A c o rt T :=
  h.mono (fun k hk => hk.2.2) (fun hk => hk rfl)

end Go.Proofs.Ytcmllllbmgcnlaa.Tup

namespace Go.Proofs.Ytcmllllbmgcnlaa.Tup
open Go.RowKit Go.Lib Go.Shelf Go.Proofs.Ytcmllllbmgcnlaa.F Go.Proofs.YtcmllllbmgcnlaaW.PrintWords Go.Proofs.YtcmllllbmgcnlaaW.PrintLast Go.Proofs.YtcmllllbmgcnlaaW.PrintMore
set_option linter.unusedVariables false
set_option linter.unusedSimpArgs false

/-- The reference's set: two cells of a block, from the j-th on. -/
structure RefAt (ok : Nat → Prop) (W : World) (b j : Nat) (A : Option Addr) (c : Nat) (o : Tp) (Ar : Option Addr) (cr : Nat) (L : List Tp) : Prop where
  c0 : W.cell? ⟨b, j, none⟩ = some (.slice A o.length c)
  c1 : W.cell? ⟨b, j + 1, none⟩ = some (.slice Ar L.length cr)
  so : o.length ≤ c
  sl : L.length ≤ cr
  F : Kd.F (Kd.int .i64) W ok A o.length o
  R : Kd.F KT W ok Ar L.length L
  rto : Rt o
  fit : ∀ a ∈ L, Fit o a
  le : L.length ≤ 1024
  fz : W.frozen? ⟨b, j + 1, none⟩ = false
theorem RefAt.step {ok : Nat → Prop} {W W1 : World} {b j : Nat} {A : Option Addr} {c : Nat} {o : Tp} {Ar : Option Addr} {cr : Nat} {L : List Tp} (h : RefAt ok W b j A c o Ar cr L) (hm : ∀ k, ok k → k < W.heap.size → W1.heap[k]? = W.heap[k]?) (h0 : W1.cell? ⟨b, j, none⟩ = W.cell? ⟨b, j, none⟩) (h1 : W1.cell? ⟨b, j + 1, none⟩ = W.cell? ⟨b, j + 1, none⟩) (h2 : W1.frozen? ⟨b, j + 1, none⟩ = W.frozen? ⟨b, j + 1, none⟩) : RefAt ok W1 b j A c o Ar cr L :=
  ⟨h0.trans h.c0, h1.trans h.c1, h.so, h.sl, Kd.F_step h.F hm, Kd.F_step h.R hm, h.rto, h.fit, h.le, h2.trans h.fz⟩
theorem RefAt.since {ok : Nat → Prop} {W W1 : World} {b j : Nat} {A : Option Addr} {c : Nat} {o : Tp} {Ar : Option Addr} {cr : Nat} {L : List Tp} (h : RefAt ok W b j A c o Ar cr L) (hs : Since W W1) : RefAt ok W1 b j A c o Ar cr L :=
  h.step (fun k _ hk => hs.b.block k hk) ((pw_cell_below hs.b h.c0).trans h.c0.symm) ((pw_cell_below hs.b h.c1).trans h.c1.symm) (hs.b.frozen (p := ⟨b, j + 1, none⟩) (World.block_lt_of_cell? W _ h.c1))
theorem RefAt.mono {ok ok' : Nat → Prop} {W : World} {b j : Nat} {A : Option Addr} {c : Nat} {o : Tp} {Ar : Option Addr} {cr : Nat} {L : List Tp} (h : RefAt ok W b j A c o Ar cr L) (hm : ∀ k, ok k → ok' k) : RefAt ok' W b j A c o Ar cr L :=
  ⟨h.c0, h.c1, h.so, h.sl, Kd.F_mono h.F hm, Kd.F_mono h.R hm, h.rto, h.fit, h.le, h.fz⟩
theorem RefAt.slo {ok : Nat → Prop} {W : World} {b j : Nat} {A : Option Addr} {c : Nat} {o : Tp} {Ar : Option Addr} {cr : Nat} {L : List Tp} (h : RefAt ok W b j A c o Ar cr L) : Sl W A c o := ⟨Kd.F_now h.F, h.so⟩

/-- The place of the first that is not below. -/
def ratL (o : Tp) (L : List Tp) (t : Tp) : Nat := (L.takeWhile fun a => decide (cmpS o a t < 0)).length
theorem ratL_le (o : Tp) (L : List Tp) (t : Tp) : ratL o L t ≤ L.length := (List.takeWhile_prefix _).length_le
theorem tw_len {α : Type} (p : α → Bool) : ∀ (L : List α) (i : Nat), i ≤ L.length → (∀ j (hj : j < L.length), j < i → p L[j] = true) → (∀ h : i < L.length, p (L[i]'h) = false) → (L.takeWhile p).length = i := by
  intro L
  induction L with
  | nil => intro i hi _ _; simp at hi; subst hi; rfl
  | cons a L ih =>
    intro i hi h1 h2
    cases i with
    | zero =>
      have := h2 (by simp)
      simp at this
      simp [this]
    | succ i =>
      have ha := h1 0 (by simp) (by omega)
      simp only [List.getElem_cons_zero] at ha
      rw [List.takeWhile_cons_of_pos ha, List.length_cons]
      rw [ih i (by simpa using hi) (fun j hj hji => by have := h1 (j + 1) (by simpa using hj) (by omega); simpa using this) (fun h => by have := h2 (by simpa using h); simpa using this)]
theorem tw_congr {α : Type} {p q : α → Bool} : ∀ M : List α, (∀ a ∈ M, p a = q a) → M.takeWhile p = M.takeWhile q := by
  intro M
  induction M with
  | nil => intro _; rfl
  | cons a M ih =>
    intro h
    have ha := h a (by simp)
    have ih' := ih fun b hb => h b (List.mem_cons_of_mem _ hb)
    by_cases hp : p a = true
    · rw [List.takeWhile_cons_of_pos hp, List.takeWhile_cons_of_pos (ha ▸ hp), ih']
    · rw [List.takeWhile_cons_of_neg hp, List.takeWhile_cons_of_neg (ha ▸ hp)]
/-- .. is where Insert puts. -/
theorem ratL_idx {o t : Tp} {L : List Tp} (hf : ∀ a ∈ L, Fit o a) (ht : Fit o t) : ratL o L t = idx o L t := by
  unfold ratL idx
  rw [tw_congr L fun a ha => by show decide (cmpS o a t < 0) = decide (Lt o a t); rw [cmpS_fit (hf a ha) ht]; rfl]
/-- Has: is the tuple there the one? -/
theorem rhas_iff {o t : Tp} {L : List Tp} (hf : ∀ a ∈ L, Fit o a) (hu : Up o L) (ht : t.length = o.length) (hr : Rt o) : (∃ h : ratL o L t < L.length, L[ratL o L t]'h = t) ↔ t ∈ L := by
  have hft : Fit o t := ⟨ht, hr⟩
  rw [ratL_idx hf hft]
  constructor
  · rintro ⟨h, e⟩
    rw [← e]; exact List.getElem_mem h
  · intro h
    obtain ⟨i, hi, rfl⟩ := List.getElem_of_mem h
    have hq : i = idx o L L[i] := idx_unique hu i (by omega) (fun j hj hji => (List.pairwise_iff_getElem.1 hu) j i hj hi hji) (fun j hj hij hlt => by
      rcases Nat.lt_or_eq_of_le hij with h1 | h1
      · exact ((List.pairwise_iff_getElem.1 hu) i j hi hj h1).asymm hlt
      · subst h1; exact hlt.irrefl)
    exact ⟨by omega, by simp only [← hq]⟩

set_option maxHeartbeats 2000000 in
set_option maxRecDepth 100000 in
/-- (*Set).at of the reference. -/
theorem rat_calls {ok : Nat → Prop} (W : World) (b j : Nat) {A : Option Addr} {c : Nat} {o : Tp} {Ar : Option Addr} {cr : Nat} {L : List Tp} (h : RefAt ok W b j A c o Ar cr L) (At : Option Addr) (ct : Nat) (t : Tp) (st : Sl W At ct t) :
    Calls Try.prog 58 #[.pointer (some ⟨b, j, none⟩), .slice At t.length ct] W fun e w' => e = .returned (.int .i64 (ratL o L t : Nat)) ∧ Drawn0 W w' := by
  have h0 := h.c0
  have h1 := h.c1
  obtain ⟨n, hn⟩ : ∃ n, n = L.length := ⟨_, rfl⟩
  rw [← hn] at h1
  have HN := Aside0.mk hn
  have hnl : n ≤ 1024 := by rw [hn]; exact h.le
  have HC : Aside0 (Kd.C KT W Ar n L) := ⟨by rw [hn]; exact Kd.F_now h.R⟩
  have HSO := Aside0.mk h.slo
  have HST := Aside0.mk st
  have HOL : Aside0 (o.length ≤ 9223372036854775806) := ⟨by have := h.rto.1; omega⟩
  clear h st hn
  go_enter Try.func58, Try.ntmps58
  go_wp2_with fail
  go_loopg [5] n (fun gk v5 w' => ∃ i m, v5 = .int .i64 ((i : Nat) : Int) ∧ Aside0 (i + gk = n) ∧ Aside0 (∀ q (hq : q < L.length), q < i → decide (cmpS o L[q] t < 0) = true) ∧ w' = W.drewN m)
  case atStart => exact ⟨0, 0, rfl, ⟨by omega⟩, ⟨fun q hq h => by omega⟩, (World.drewN_zero _).symm⟩
  case round =>
    obtain ⟨i, m, rfl, HI, HB, rfl⟩ := hrel
    by_cases hi : i < n
    · have hil : i < L.length := by rw [← HN.out]; exact hi
      have hii : (i : Int) < (n : Int) := by omega
      have hid : decide (i < n) = true := decide_eq_true hi
      obtain ⟨ad, Ai, ci, rfl, hcell, sl⟩ := tup_at HC.out i hil
      obtain ⟨x, hx⟩ : ∃ x, x = L[i] := ⟨_, rfl⟩
      rw [← hx] at hcell sl
      have slW := Aside0.mk sl
      clear sl
      obtain ⟨z, hz⟩ : ∃ z, z = cmpS o x t := ⟨_, rfl⟩
      have hC : ∀ w, Since W w → Calls Try.prog 24 #[.slice A o.length c, .slice Ai x.length ci, .slice At t.length ct] w fun e w' => e = .returned (.int .i64 z) ∧ Drawn0 w w' := fun w hw => by
        rw [hz]; exact rcmp_calls A c o Ai ci x At ct t _ (hw.sl HSO.out) (hw.sl slW.out) (hw.sl HST.out) HOL.out
      have HCM := Aside0.mk hC
      have HZ := Aside0.mk (And.intro hx hz)
      clear hx hz slW hC
      by_cases hlt : z < 0
      · have hzd : decide (z < 0) = true := decide_eq_true hlt
        go_wp2_with fail
        go_quiet (first | (go_at_call 24; refine (HCM.out _ (by repeat (first | exact Since.refl _ | refine Since.drewN ?_ _))).mono ?_; rintro e w' ⟨rfl, ⟨nd, rfl⟩⟩; first | exact ⟨rfl, _, World.drewN_drewN _ _ _⟩ | exact ⟨rfl, _, Eq.trans (World.drewN_drewN _ _ _) (congrArg (World.drewN _) (Nat.add_assoc _ _ _))⟩))
        go_wp2
        obtain ⟨k2, hk2⟩ : ∃ k2, k2 = gk - 1 := ⟨_, rfl⟩
        go_roundg k2
        case measure => have := HI.out; omega
        case rel =>
          refine ⟨i + 1, _, by go_num, ⟨by have := HI.out; omega⟩, ⟨fun q hq hqi => ?_⟩, rfl⟩
          rcases Nat.lt_or_eq_of_le (Nat.le_of_lt_succ hqi) with h | h
          · exact HB.out q hq h
          · subst h; rw [← HZ.out.1, ← HZ.out.2]; exact decide_eq_true hlt
      · have hzd : decide (z < 0) = false := decide_eq_false hlt
        go_wp2_with fail
        go_quiet (first | (go_at_call 24; refine (HCM.out _ (by repeat (first | exact Since.refl _ | refine Since.drewN ?_ _))).mono ?_; rintro e w' ⟨rfl, ⟨nd, rfl⟩⟩; first | exact ⟨rfl, _, World.drewN_drewN _ _ _⟩ | exact ⟨rfl, _, Eq.trans (World.drewN_drewN _ _ _) (congrArg (World.drewN _) (Nat.add_assoc _ _ _))⟩))
        go_wp2
        go_ret
        refine ⟨?_, ⟨_, by first | exact World.drewN_drewN _ _ _ | rfl⟩⟩
        have e : ratL o L t = i := tw_len _ L i (by omega) HB.out fun h => by rw [← HZ.out.1, ← HZ.out.2]; exact decide_eq_false (by omega)
        rw [e]; rfl
    · have hid : decide (i < n) = false := decide_eq_false hi
      go_wp2_with fail
      go_quiet (fail)
      go_wp2
      go_ret
      refine ⟨?_, ⟨_, by first | exact World.drewN_drewN _ _ _ | rfl⟩⟩
      have hin : i = n := by have := HI.out; omega
      have e : ratL o L t = i := tw_len _ L i (by rw [← HN.out]; omega) HB.out fun h => by rw [← HN.out] at h; omega
      rw [e]; rfl

end Go.Proofs.Ytcmllllbmgcnlaa.Tup

namespace Go.Proofs.Ytcmllllbmgcnlaa.Tup
open Go.RowKit Go.Lib Go.Shelf Go.Proofs.Ytcmllllbmgcnlaa.F Go.Proofs.YtcmllllbmgcnlaaW.PrintWords Go.Proofs.YtcmllllbmgcnlaaW.PrintLast Go.Proofs.YtcmllllbmgcnlaaW.PrintMore
set_option linter.unusedVariables false
set_option linter.unusedSimpArgs false

section
variable {P : Program}
theorem run_append_nil {w : World} (base : Nat) (t ty e : TypeId) (i : TypeInfo) (size : Nat) (ht : P.underlying t = some (.slice e)) (hi : P.info? e = some i)
    (v : Value) (n : Nat) (xs : List Value) (hown : w.ownsRow base e size v n xs) (c : Nat) :
    (Builtin.append_ #[t, t] ty #[v, .slice none 0 c]).run P w = .ok v w := by
  rcases hown.2 with ⟨rfl, rfl⟩ | ⟨g, cap, cur, rfl, _, _, hnc, _⟩
  · simp [Builtin.append_, run_underlying ht, sizeOf, typeInfo, hi, Builtin.lenOf, Builtin.firstCells]
  · simp [Builtin.append_, run_underlying ht, sizeOf, typeInfo, hi, Builtin.lenOf, Builtin.firstCells, hnc, storeCells]
/-- append of any slice that is read to a row of the call's own. -/
theorem wpList_append_any {w : World} {ops : Array Oper} {rest : List Oper} {o : Oper} {a : Act} {Q : Exit → Act → World → Prop} (hgd : o.guard = none) (s x : Operand) (t : TypeId)
    (ho : o.op = .call { callee := .builtin .append, args := #[s, x], argTypes := #[t, t] })
    (base : Nat) (e : TypeId) (i : TypeInfo) (z : Value) (bytes : Nat) (ht : P.underlying t = some (.slice e)) (hi : P.info? e = some i) (hz : i.zero = some z)
    (hsize : i.size = 1) (hby : i.bytes = bytes) (hzs : z.cells.size = 1)
    (v : Value) (n : Nat) (xs : List Value) (hs : a.eval s = v) (hown : w.ownsRow base e 1 v n xs)
    (A : Option Addr) (m c : Nat) (news : List Value) (hx : a.eval x = .slice A m c) (hl : news.length = m) (hA : A = none → m = 0) (hnews : ∀ ad, A = some ad → ∀ j u, news[j]? = some u → w.cell? (ad.add j) = some u) (h1 : ∀ u ∈ news, u.oneCell' = true)
    (h63 : n + m ≤ maxLen) (hbytes : (n + m) * bytes ≤ 140737488355328) (hbase : base ≤ w.heap.size)
    (h : ∀ v' w', w'.ownsRow base e 1 v' (n + m) (xs ++ news) → w.grownBy w' v.ownBlock → wpList P ops Q rest (a.put o.dst v') w') : wpList P ops Q (o :: rest) a w := by
  cases A with
  | some ad => exact wpList_append_own _ hgd s x t ho base e i z 1 bytes ht hi hz hsize hby hzs (by decide) v n xs hs hown ad m c news hx (by omega) (hnews ad rfl) h1 h63 hbytes hbase fun v' w' h2 h3 _ => h v' w' h2 h3
  | none =>
    obtain rfl := hA rfl
    obtain rfl : news = [] := List.length_eq_zero_iff.1 hl
    refine wpList_plain hgd fun K hK => ?_
    have hrun := run_append_nil (P := P) (w := w) base t o.type e i 1 ht hi v n xs hown c
    unfold Oper.wp
    simp [execOp, ho, resolve, invoke, builtin, hs, hx, hrun, Result.andThen]
    refine hK _ _ (h v w (by simpa using hown) ⟨rfl, rfl, rfl, Nat.le_refl _, fun _ _ _ => rfl⟩)
end

set_option maxHeartbeats 2000000 in
set_option maxRecDepth 100000 in
/-- (*Set).Has of the reference. -/
theorem rhas_calls {ok : Nat → Prop} (W : World) (b j : Nat) {A : Option Addr} {c : Nat} {o : Tp} {Ar : Option Addr} {cr : Nat} {L : List Tp} (h : RefAt ok W b j A c o Ar cr L) (hu : Up o L) (At : Option Addr) (ct : Nat) (t : Tp) (st : Sl W At ct t) :
    Calls Try.prog 57 #[.pointer (some ⟨b, j, none⟩), .slice At t.length ct] W fun e w' => e = .returned (.bool (decide (t ∈ L))) ∧ Drawn0 W w' := by
  have hA := rat_calls W b j h At ct t st
  obtain ⟨q, hq⟩ : ∃ q, q = ratL o L t := ⟨_, rfl⟩
  rw [← hq] at hA
  have h0 := h.c0
  have h1 := h.c1
  have hml : L.length ≤ 1024 := h.le
  have HH := Aside0.mk h
  have HU := Aside0.mk hu
  have HQ := Aside0.mk hq
  have HST := Aside0.mk st
  have hqL : q ≤ L.length := by rw [hq]; exact ratL_le o L t
  have HA := Aside0.mk hA
  clear h hu hq st hA
  by_cases hl : t.length = o.length
  · have hA := HA.out
    rw [hl] at hA
    have HA := Aside0.mk hA
    have HL := Aside0.mk hl
    rw [hl]
    have HI := Aside0.mk (rhas_iff HH.out.fit HU.out hl HH.out.rto)
    clear hl hA
    by_cases hi : q < L.length
    · have hid : decide (q < L.length) = true := decide_eq_true hi
      have hib : q < ratL o L t + 1 := by rw [← HQ.out]; omega
      obtain ⟨ad, Ai, ci, hAe, hcell, sl⟩ := tup_at (Kd.F_now HH.out.R) q hi
      subst hAe
      obtain ⟨x, hx⟩ : ∃ x, x = L[q] := ⟨_, rfl⟩
      rw [← hx] at hcell sl
      have HX := Aside0.mk hx
      have SL := Aside0.mk sl
      have HNX : Aside0 (x.length ≤ 9223372036854775806) := ⟨by have := (HH.out.fit x (by rw [hx]; exact List.getElem_mem _)).1; have := HH.out.rto.1; omega⟩
      clear hx sl
      go_enter Try.func57, Try.ntmps57
      go_wp2_with (first
        | (go_at_call 58; refine HA.out.mono ?_; rintro e w1 ⟨rfl, hd1⟩; have HD1 := Aside0.mk (Since.ofDrawn hd1); obtain ⟨m1, rfl⟩ := hd1; have hSm := same_calls Ai ci x At ct t _ (HD1.out.sl SL.out) (HD1.out.sl HST.out) HNX.out; rw [HL.out] at hSm)
        | (go_at_call 25; refine hSm.mono ?_; clear hSm; rintro e w2 ⟨rfl, ⟨m2, rfl⟩⟩))
      go_ret
      refine ⟨?_, ⟨_, by first | exact World.drewN_drewN _ _ _ | rfl⟩⟩
      have : (x = t) ↔ t ∈ L := by
        rw [← HI.out]
        constructor
        · intro e; exact ⟨by rw [← HQ.out]; exact hi, by simp only [← HQ.out, ← HX.out]; exact e⟩
        · rintro ⟨h, e⟩; rw [← e, HX.out]; simp only [← HQ.out]
      by_cases hxt : x = t
      · rw [decide_eq_true hxt, decide_eq_true (this.1 hxt)]; rfl
      · rw [decide_eq_false hxt, decide_eq_false (fun h => hxt (this.2 h))]; rfl
    · have hid : decide (q < L.length) = false := decide_eq_false hi
      go_enter Try.func57, Try.ntmps57
      go_wp2_with (first
        | (go_at_call 58; refine HA.out.mono ?_; rintro e w1 ⟨rfl, hd1⟩; obtain ⟨m1, rfl⟩ := hd1))
      go_ret
      refine ⟨?_, ⟨_, rfl⟩⟩
      have : t ∉ L := fun h => by
        obtain ⟨h, _⟩ := HI.out.2 h
        rw [← HQ.out] at h; exact hi h
      rw [decide_eq_false this]; rfl
  · have e1 : (t.length == o.length) = false := beq_eq_false_iff_ne.2 hl
    have e2 : ((t.length : Int) == (o.length : Int)) = false := beq_eq_false_iff_ne.2 (by omega)
    go_enter Try.func57, Try.ntmps57
    go_wp2_with (first
      | (go_at_call 58; refine HA.out.mono ?_; rintro e w1 ⟨rfl, hd1⟩; obtain ⟨m1, rfl⟩ := hd1))
    go_ret
    refine ⟨?_, ⟨_, rfl⟩⟩
    have : t ∉ L := fun h => hl (HH.out.fit t h).1
    rw [decide_eq_false this]; rfl

/-- The reference's Insert: what it answers; what it leaves. -/
def RInsR (ok : Nat → Prop) (W : World) (b j : Nat) (o : Tp) (L : List Tp) (t : Tp) (e : Ending) (w' : World) : Prop :=
  e = .returned (.tuple #[.bool (insAns o L t).1, .int .i64 ((insAns o L t).2 : Int)]) ∧ (((insAns o L t).1 = false ∧ Drawn0 W w') ∨ ((insAns o L t).1 = true ∧ ∃ w1 Ar' cr', Below W.heap.size W w1 ∧ w' = w1.setCell ⟨b, j + 1, none⟩ (.slice Ar' (insO o t L).length cr') ∧ (insO o t L).length ≤ cr' ∧ Kd.F KT w1 (Plus ok W.heap.size) Ar' (insO o t L).length (insO o t L)))

set_option maxHeartbeats 2000000 in
set_option maxRecDepth 100000 in
theorem rins_width {ok : Nat → Prop} (W : World) (b j : Nat) {A : Option Addr} {c : Nat} {o : Tp} {Ar : Option Addr} {cr : Nat} {L : List Tp} (h : RefAt ok W b j A c o Ar cr L) (At : Option Addr) (ct : Nat) (t : Tp) (hl : t.length ≠ o.length) :
    Calls Try.prog 27 #[.pointer (some ⟨b, j, none⟩), .slice At t.length ct] W (RInsR ok W b j o L t) := by
  have ha : Aside0 (insAns o L t = (false, 14)) := ⟨by unfold insAns; rw [if_pos hl]⟩
  have h0 := h.c0
  have e1 : (t.length == o.length) = false := beq_eq_false_iff_ne.2 hl
  have e2 : ((t.length : Int) == (o.length : Int)) = false := beq_eq_false_iff_ne.2 (by omega)
  have e3 : ((t.length : Int) != (o.length : Int)) = true := bne_iff_ne.2 (by omega)
  clear h hl
  go_enter Try.func27, Try.ntmps27
  go_wp2
  go_ret2
  exact ⟨by rw [ha.out]; rfl, .inl ⟨by rw [ha.out], ⟨0, (World.drewN_zero _).symm⟩⟩⟩

set_option maxHeartbeats 2000000 in
set_option maxRecDepth 100000 in
theorem rins_not {ok : Nat → Prop} (W : World) (b j : Nat) {A : Option Addr} {c : Nat} {o : Tp} {Ar : Option Addr} {cr : Nat} {L : List Tp} (h : RefAt ok W b j A c o Ar cr L) (hu : Up o L) (At : Option Addr) (ct : Nat) (t : Tp) (st : Sl W At ct t) (hl : t.length = o.length) (hn : t ∈ L ∨ 1024 ≤ L.length) :
    Calls Try.prog 27 #[.pointer (some ⟨b, j, none⟩), .slice At t.length ct] W (RInsR ok W b j o L t) := by
  have hH := rhas_calls W b j h hu At ct t st
  have h0 := h.c0
  have h1 := h.c1
  have HH := Aside0.mk h
  have HL := Aside0.mk hl
  rw [hl] at hH ⊢
  by_cases hm : t ∈ L
  · have ha : Aside0 (insAns o L t = (false, 0)) := ⟨by unfold insAns; rw [if_neg (by simp [hl]), if_pos hm]⟩
    rw [decide_eq_true hm] at hH
    clear h hl hn hm
    go_enter Try.func27, Try.ntmps27
    go_wp2_with (first
      | (go_at_call 57; refine hH.mono ?_; clear hH; rintro e w1 ⟨rfl, ⟨m1, rfl⟩⟩))
    go_ret2
    exact ⟨by rw [ha.out]; rfl, .inl ⟨by rw [ha.out], ⟨_, rfl⟩⟩⟩
  · have hn' : 1024 ≤ L.length := hn.resolve_left hm
    have ha : Aside0 (insAns o L t = (false, 18)) := ⟨by unfold insAns; rw [if_neg (by simp [hl]), if_neg hm, if_pos hn']⟩
    rw [decide_eq_false hm] at hH
    have hd : decide ((L.length : Int) ≥ 1024) = true := decide_eq_true (by omega)
    have hd2 : (L.length : Int) ≥ 1024 := by omega
    clear h hl hn hm hn'
    go_enter Try.func27, Try.ntmps27
    go_wp2_with (first
      | (go_at_call 57; refine hH.mono ?_; clear hH; rintro e w1 ⟨rfl, ⟨m1, rfl⟩⟩))
    go_ret2
    exact ⟨by rw [ha.out]; rfl, .inl ⟨by rw [ha.out], ⟨_, rfl⟩⟩⟩

end Go.Proofs.Ytcmllllbmgcnlaa.Tup

namespace Go.Proofs.Ytcmllllbmgcnlaa.Tup
open Go.RowKit Go.Lib Go.Shelf Go.Proofs.Ytcmllllbmgcnlaa.F Go.Proofs.YtcmllllbmgcnlaaW.PrintWords Go.Proofs.YtcmllllbmgcnlaaW.PrintLast Go.Proofs.YtcmllllbmgcnlaaW.PrintMore
set_option linter.unusedVariables false
set_option linter.unusedSimpArgs false

theorem drop_cells {A : Option Addr} {W : World} {us : List Value} {n c q : Nat} (hu : us.length = n) (hc : n ≤ c) (hA : A = none → n = 0) (hcells : ∀ ad, A = some ad → ∀ j u, us[j]? = some u → W.cell? (ad.add j) = some u) (hq : q ≤ n) :
    ((if c = q then A else A.map (·.add q)) = none → n - q = 0) ∧ ∀ ad, (if c = q then A else A.map (·.add q)) = some ad → ∀ j u, (us.drop q)[j]? = some u → W.cell? (ad.add j) = some u := by
  have add_of_add : ∀ (a : Addr) (i j : Nat), (a.add i).add j = a.add (i + j) := by
    intro a i j
    unfold Addr.add
    by_cases hi : i = 0 <;> by_cases hj : j = 0 <;> simp [hi, hj, Nat.add_assoc]
  constructor
  · intro h
    by_cases e : c = q
    · omega
    · rw [if_neg e] at h
      have : A = none := by cases A <;> simp_all
      have := hA this
      omega
  · intro ad h j u hj
    rw [List.getElem?_drop] at hj
    by_cases e : c = q
    · have := (List.getElem?_eq_some_iff.1 hj).1
      omega
    · rw [if_neg e] at h
      cases A with
      | none => simp at h
      | some a0 =>
        simp at h
        subst h
        rw [add_of_add]
        exact hcells a0 rfl _ _ hj

theorem own_ne {W : World} {b1 e1 s1 n1 b2 e2 s2 n2 : Nat} {v1 v2 : Value} {x1 x2 : List Value} (h1 : W.ownsRow b1 e1 s1 v1 n1 x1) (h2 : W.ownsRow b2 e2 s2 v2 n2 x2) (hne : e1 ≠ e2) : ∀ k, some k = v1.ownBlock → some k ≠ v2.ownBlock := by
  intro k hk hk2
  obtain ⟨c1, g1⟩ := own_typed h1 k hk.symm
  obtain ⟨c2, g2⟩ := own_typed h2 k hk2.symm
  rw [g1] at g2
  injection g2 with g2
  injection g2 with _ g3 _
  exact hne g3
theorem since_grown {W w w' : World} {row : Option Nat} (h : Since W w) (hg : w.grownBy w' row) (hr : ∀ k, row = some k → W.heap.size ≤ k) : Since W w' := ⟨h.b.grown hg h.b.size hr⟩
theorem own_one {W : World} {b e n : Nat} {v : Value} {xs : List Value} (h : W.ownsRow b e 1 v n xs) : v.oneCell' = true := by
  rcases h.2 with ⟨rfl, _⟩ | ⟨g, cap, cur, rfl, _⟩ <;> rfl
theorem own_sl {W : World} {b e n : Nat} {v : Value} {xs : List Value} (h : W.ownsRow b e 1 v n xs) : ∃ A c, v = .slice A n c := by
  rcases h.2 with ⟨rfl, hn⟩ | ⟨g, cap, cur, rfl, _⟩
  · subst hn; exact ⟨_, _, rfl⟩
  · exact ⟨_, _, rfl⟩
theorem rput_close {ok : Nat → Prop} {W wb wd : World} {L : List Tp} {o t : Tp} {us : List Value} {v2 : Value} {q n g cap B : Nat} (hE : Els (El KT W ok) L us) (hu : us.length = n) (hd : Since W wd) (hB : W.heap.size ≤ B)
    (hown2 : wb.ownsRow B 3 1 v2 t.length (t.map (Value.int .i64))) (hk2 : ∀ k, some k = v2.ownBlock → wd.heap[k]? = wb.heap[k]?)
    (hown4 : wd.ownsRow W.heap.size 22 1 (.slice (some ⟨g, 0, none⟩) (n + 1) cap) (n + 1) (us.take q ++ [v2] ++ us.drop q)) (hq : q = idx o L t) :
    Kd.F KT wd (Plus ok W.heap.size) (some ⟨g, 0, none⟩) (insO o t L).length (insO o t L) ∧ (insO o t L).length ≤ cap ∧ (insO o t L).length = n + 1 := by
  have hn : L.length = n := by rw [← hu, hE.len]
  have hlen : (insO o t L).length = n + 1 := by rw [insO_len, hn]
  have hown2' : wd.ownsRow B 3 1 v2 t.length (t.map (Value.int .i64)) := own_move hown2 fun k hk => hk2 k hk.symm
  obtain ⟨A2, c2, e2, hle, hF⟩ := rows_in (d := Kd.int .i64) (ok := fun _ => False) rfl hown2' (Els.of (by simp) fun i hi hu => by rw [List.getElem_map]; exact fun W' _ => rfl) rfl
  have hge := own_ge hown2'
  have hEt : El KT wd (Plus ok W.heap.size) t v2 := by
    rw [e2]
    refine tup_el hle (Kd.F_mono hF fun k hk => .inr ?_)
    rcases hk with hk | hk
    · exact hk.elim
    · have := hge k hk; omega
  have hEL : Els (El KT wd (Plus ok W.heap.size)) L us := (els_step hE fun k _ hk => hd.b.block k hk).imp fun _ _ h => h.mono fun k hk => .inl hk
  have hEE : Els (El KT wd (Plus ok W.heap.size)) (insO o t L) (us.take q ++ [v2] ++ us.drop q) := by
    unfold insO
    rw [← hq, List.append_assoc]
    exact (hEL.take q).append (.cons hEt (hEL.drop q))
  obtain ⟨A4, c4, e4, hle4, hF4⟩ := rows_in (d := KT) rfl hown4 hEE (by omega)
  injection e4 with h1 h2 h3
  subst h1 h3
  refine ⟨?_, hle4, hlen⟩
  rw [hlen]
  rw [hlen] at hF4
  refine Kd.F_mono hF4 fun k hk => ?_
  rcases hk with hk | hk
  · exact hk
  · exact .inr (own_ge hown4 k hk)

set_option maxHeartbeats 4000000 in
set_option maxRecDepth 100000 in
theorem rins_put {ok : Nat → Prop} (W : World) (b j : Nat) {A : Option Addr} {c : Nat} {o : Tp} {Ar : Option Addr} {cr : Nat} {L : List Tp} (h : RefAt ok W b j A c o Ar cr L) (hu : Up o L) (At : Option Addr) (ct : Nat) (t : Tp) (st : Sl W At ct t) (hl : t.length = o.length) (hm : t ∉ L) (hn : L.length < 1024) :
    Calls Try.prog 27 #[.pointer (some ⟨b, j, none⟩), .slice At t.length ct] W (RInsR ok W b j o L t) := by
  have hH := rhas_calls W b j h hu At ct t st
  have ha : Aside0 (insAns o L t = (true, 0)) := ⟨by unfold insAns; rw [if_neg (by simp [hl]), if_neg hm, if_neg (by omega)]⟩
  have hT := fun m => rat_calls (W.drewN m) b j (h.since ((Since.refl W).drewN m)) At ct t (st.drewN m)
  rw [decide_eq_false hm] at hH
  have hrt : ratL o L t = idx o L t := ratL_idx h.fit ⟨hl, h.rto⟩
  obtain ⟨q, hq⟩ : ∃ q, q = idx o L t := ⟨_, rfl⟩
  rw [hrt, ← hq] at hT
  have hqn : q ≤ L.length := by rw [hq]; exact idx_le o L t
  have hql : q ≤ cr := Nat.le_trans hqn h.sl
  have hlc : L.length ≤ cr := h.sl
  have h0 := h.c0
  have h1 := h.c1
  have hfz := h.fz
  have h8 : o.length ≤ 8 := h.rto.1
  obtain ⟨n, hnL⟩ : ∃ n, n = L.length := ⟨_, rfl⟩
  rw [← hnL] at h1 hqn hlc
  obtain ⟨us, hE, hul, hA, hcel⟩ := rows_out rfl h.R
  obtain ⟨ts, hEt, htl, htA, htc⟩ := rows_out (d := Kd.int .i64) rfl (Kd.C_F (Kd.heap_int .i64) st.C)
  have hts := els_ints hEt
  obtain ⟨i0, hi, hz0, hz1, hz2⟩ := info_parts infoL
  obtain ⟨i1, hi', hz0', hz1', hz2'⟩ := info_parts (show (Try.prog.info? 3).map (fun i => (i.zero, i.size, i.bytes)) = some (some (.int .i64 0), 1, 8) by kernel_rfl)
  have HI0 := Aside0.mk (And.intro hi (And.intro hz0 (And.intro hz1 hz2)))
  have HI1 := Aside0.mk (And.intro hi' (And.intro hz0' (And.intro hz1' hz2')))
  have HH := Aside0.mk h
  have HST := Aside0.mk st
  have HQ := Aside0.mk hq
  have HN := Aside0.mk hnL
  have HTT := Aside0.mk hT
  rw [← hnL] at hul hA
  have hTake : ∀ w, Since W w → ∀ ad, Ar = some ad → ∀ j u, (us.take q)[j]? = some u → w.cell? (ad.add j) = some u := fun w hw ad he j u hj => by
    rw [List.getElem?_take] at hj
    split at hj
    · exact pw_cell_below hw.b (hcel ad he j u hj)
    · cases hj
  have hDr := fun (w : World) (hw : Since W w) => drop_cells (W := w) (q := q) hul hlc hA (fun ad he j u hj => pw_cell_below hw.b (hcel ad he j u hj)) hqn
  have hTs : ∀ w, Since W w → ∀ ad, At = some ad → ∀ j u, (t.map (Value.int .i64))[j]? = some u → w.cell? (ad.add j) = some u := fun w hw ad he j u hj => pw_cell_below hw.b (htc ad he j u (by rw [hts]; exact hj))
  have HU := Aside0.mk (And.intro hE (And.intro hul (And.intro hA hTake)))
  have HDR := Aside0.mk hDr
  have HTS := Aside0.mk (And.intro hTs htA)
  have HTL := Aside0.mk hl
  have H1 := Aside0.mk h1
  have hn2 : n < 1024 := by rw [hnL]; exact hn
  have hd : decide ((n : Int) ≥ 1024) = false := decide_eq_false (by omega)
  have hd2 : ¬ (n : Int) ≥ 1024 := by omega
  have hone : ∀ u ∈ us, u.oneCell' = true := els_one hE
  have HON := Aside0.mk hone
  rw [hl] at hH ⊢
  clear h hu st hl hm hn hq hnL hT hE hul hA hcel hEt htl htA htc hts hTake hDr hTs hi hz0 hz1 hz2 hi' hz0' hz1' hz2' hrt hone
  go_enter Try.func27, Try.ntmps27
  go_wp2_with (first
    | (go_at_call 57; refine hH.mono ?_; clear hH; rintro e w1 ⟨rfl, ⟨m1, rfl⟩⟩; have hT := HTT.out m1; rw [HTL.out] at hT)
    | (go_at_call 58; refine hT.mono ?_; clear hT; rintro e w2 ⟨rfl, ⟨m2, rfl⟩⟩)
    | ((with_reducible refine gate_builtin (b := .append) (xs := #[.const (.slice none 0 0), .tmp 33]) rfl ?_); go_loud (refine wpList_append_any rfl _ _ 23 rfl W.heap.size 22 i0 (.slice none 0 0) 24 Try.underlying23 HI0.out.1 HI0.out.2.1 HI0.out.2.2.1 HI0.out.2.2.2 rfl (.slice none 0 0) 0 [] rfl (World.ownsRow_nil _ _ _ _) Ar q cr (us.take q) rfl (by have := HU.out.2.1; simp; omega) (fun h => by have := HU.out.2.2.1 h; omega) (HU.out.2.2.2 _ (by repeat (first | exact Since.refl _ | refine Since.drewN ?_ _))) (fun u hu => HON.out u (List.mem_of_mem_take hu)) (by unfold maxLen; omega) (by omega) (by simp) ?_; intro v1 wa hown1 hg1; simp only [Nat.zero_add, List.nil_append] at hown1; have S1 := Aside0.mk (since_grown (W := W) (by repeat (first | exact Since.refl _ | refine Since.drewN ?_ _)) hg1 (fun k e => by simp [Value.ownBlock] at e)); have O1 := Aside0.mk hown1; clear hown1 hg1))
    | ((with_reducible refine gate_builtin (b := .append) (xs := #[.const (.slice none 0 0), .tmp 36]) rfl ?_); go_loud (refine wpList_append_any rfl _ _ 22 rfl wa.heap.size 3 i1 (.int .i64 0) 8 Try.underlying22 HI1.out.1 HI1.out.2.1 HI1.out.2.2.1 HI1.out.2.2.2 rfl (.slice none 0 0) 0 [] rfl (World.ownsRow_nil _ _ _ _) At o.length ct (t.map (Value.int .i64)) rfl (by have := HTL.out; simp; omega) (fun h => by have := HTS.out.2 h; have := HTL.out; omega) (HTS.out.1 _ S1.out) (fun u hu => by obtain ⟨z, _, rfl⟩ := List.mem_map.1 hu; rfl) (by unfold maxLen; omega) (by omega) (Nat.le_refl _) ?_; intro v2 wb hown2 hg2; simp only [Nat.zero_add, List.nil_append] at hown2; have S2 := Aside0.mk (since_grown S1.out hg2 (fun k e => by simp [Value.ownBlock] at e)); have O1b := Aside0.mk (own_move (w1 := wb) O1.out (fun k hk => hg2.block k (own_lt O1.out k hk.symm) (by simp [Value.ownBlock]))); have O2 := Aside0.mk hown2; obtain ⟨A2, c2, hv2⟩ := own_sl hown2; subst hv2; clear hown2 hg2))
    | ((with_reducible refine gate_builtin (b := .append) (xs := #[.tmp 35, .tmp 38]) rfl ?_); go_loud (refine wpList_append_any rfl _ _ 23 rfl W.heap.size 22 i0 (.slice none 0 0) 24 Try.underlying23 HI0.out.1 HI0.out.2.1 HI0.out.2.2.1 HI0.out.2.2.2 rfl v1 q (us.take q) rfl (O1b.out.alloc _) (some ⟨wb.heap.size, 0, none⟩) 1 1 [.slice A2 o.length c2] rfl rfl (fun h => by cases h) (fun ad he => by cases he; exact cell_one_new _ _ _) (by simp [Value.oneCell']) (by unfold maxLen; omega) (by omega) (by have := S2.out.b.size; simp; omega) ?_; intro v3 wc hown3 hg3; have S3 := Aside0.mk (since_grown (S2.out.alloc (.cells #[.slice A2 o.length c2] 22)) hg3 (fun k e => own_ge O1b.out k e.symm)); have K3 := Aside0.mk (fun k (hk : some k = (Value.slice A2 o.length c2).ownBlock) => (hg3.block k (by have := own_lt O2.out k hk; simp; omega) (own_ne O2.out O1b.out (by decide) k hk)).trans (Below.heap_alloc wb (.cells #[.slice A2 o.length c2] 22) k (own_lt O2.out k hk))); have O3 := Aside0.mk hown3; have h1c := pw_cell_below S3.out.b H1.out; clear hown3 hg3))
    | ((with_reducible refine gate_builtin (b := .append) (xs := #[.tmp 41, .tmp 47]) rfl ?_); go_loud (refine wpList_append_any rfl _ _ 23 rfl W.heap.size 22 i0 (.slice none 0 0) 24 Try.underlying23 HI0.out.1 HI0.out.2.1 HI0.out.2.2.1 HI0.out.2.2.2 rfl v3 (q + 1) (us.take q ++ [.slice A2 o.length c2]) rfl O3.out (if cr = q then Ar else Option.map (fun x => x.add q) Ar) (n - q) (cr - q) (us.drop q) rfl (by rw [List.length_drop, HU.out.2.1]) (HDR.out _ S3.out).1 (HDR.out _ S3.out).2 (fun u hu => HON.out u (List.mem_of_mem_drop hu)) (by unfold maxLen; omega) (by omega) S3.out.b.size ?_; intro v4 wd hown4 hg4; rw [show q + 1 + (n - q) = n + 1 from by omega] at hown4; have S4 := Aside0.mk (since_grown S3.out hg4 (fun k e => own_ge O3.out k e.symm)); have K4 := Aside0.mk (fun k (hk : some k = (Value.slice A2 o.length c2).ownBlock) => ((hg4.block k (by have e := K3.out k hk; have l := own_lt O2.out k hk; rw [Array.getElem?_eq_getElem l] at e; exact (Array.getElem?_eq_some_iff.1 e).1) (own_ne (own_move (w1 := wc) O2.out (fun k hk => K3.out k hk.symm)) O3.out (by decide) k hk)).trans (K3.out k hk))); obtain ⟨g4, cap4, hv4⟩ := ownsRow_succ hown4; subst hv4; have O4 := Aside0.mk hown4; have h1d := pw_cell_below S4.out.b H1.out; have hfd := S4.out.b.frozen (p := ⟨b, j + 1, none⟩) (World.block_lt_of_cell? W _ H1.out); rw [hfz] at hfd; clear hown4 hg4)))
  all_goals
    go_ret2
    have ho2 : wb.ownsRow wa.heap.size 3 1 (.slice A2 o.length c2) t.length (t.map (Value.int .i64)) := by rw [HTL.out]; exact O2.out
    obtain ⟨hF, hle, hlen⟩ := rput_close HU.out.1 HU.out.2.1 S4.out S1.out.b.size ho2 K4.out O4.out HQ.out
    exact ⟨by rw [ha.out]; rfl, .inr ⟨by rw [ha.out], wd, _, cap4, S4.out.b, by rw [hlen], hle, hF⟩⟩

/-- (*Set).Insert of the reference. -/
theorem rins_calls {ok : Nat → Prop} (W : World) (b j : Nat) {A : Option Addr} {c : Nat} {o : Tp} {Ar : Option Addr} {cr : Nat} {L : List Tp} (h : RefAt ok W b j A c o Ar cr L) (hu : Up o L) (At : Option Addr) (ct : Nat) (t : Tp) (st : Sl W At ct t) :
    Calls Try.prog 27 #[.pointer (some ⟨b, j, none⟩), .slice At t.length ct] W (RInsR ok W b j o L t) := by
  by_cases hl : t.length = o.length
  · by_cases hm : t ∈ L
    · exact rins_not W b j h hu At ct t st hl (.inl hm)
    · by_cases hn : 1024 ≤ L.length
      · exact rins_not W b j h hu At ct t st hl (.inr hn)
      · exact rins_put W b j h hu At ct t st hl hm (by omega)
  · exact rins_width W b j h At ct t hl

end Go.Proofs.Ytcmllllbmgcnlaa.Tup

namespace Go.Proofs.Ytcmllllbmgcnlaa.Tup
open Go.RowKit Go.Lib Go.Shelf Go.Proofs.Ytcmllllbmgcnlaa.F Go.Proofs.YtcmllllbmgcnlaaW.PrintWords Go.Proofs.YtcmllllbmgcnlaaW.PrintLast Go.Proofs.YtcmllllbmgcnlaaW.PrintMore
set_option linter.unusedVariables false
set_option linter.unusedSimpArgs false

def RNewR (W : World) (o : Tp) (e : Ending) (w' : World) : Prop :=
  ∃ A c, e = .returned (.tuple #[.agg #[.slice A o.length c, .slice none 0 0], .int .i64 0]) ∧ o.length ≤ c ∧ Kd.F (Kd.int .i64) w' (fun k => W.heap.size ≤ k) A o.length o ∧ Below W.heap.size W w'

set_option maxHeartbeats 2000000 in
set_option maxRecDepth 100000 in
theorem rnew_no (W : World) (A0 : Option Addr) (c0 : Nat) (o : Tp) (h0 : Sl W A0 c0 o) (hn : o.length ≤ 9223372036854775806) (ho : ¬ Rt o) :
    Calls Try.prog 26 #[.slice A0 o.length c0] W fun e w' => e = .returned (.tuple #[.agg #[.slice none 0 0, .slice none 0 0], .int .i64 1]) ∧ Below W.heap.size W w' := by
  have hb := below_alloc (Below.refl W.heap.size W) (.cells #[.slice none 0 0, .slice none 0 0] 45)
  have hR := rright_calls A0 c0 o _ (h0.below hb) hn
  rw [decide_eq_false ho] at hR
  have HB := Aside0.mk hb
  clear ho h0 hb
  go_enter Try.func26, Try.ntmps26
  go_wp2_with (first
    | (go_at_call 43; refine hR.mono ?_; clear hR; rintro e w1 ⟨rfl, ⟨m, rfl⟩⟩))
  exact bodyPost_ret (v := .tuple #[.agg #[.slice none 0 0, .slice none 0 0], .int .i64 1]) (by simp [results, Try.results26, go_sem]) rfl ⟨rfl, ((pw_below_drewN HB.out _).setCell (p := ⟨W.heap.size, 0, none⟩) (Nat.le_refl _) _).setCell (p := ⟨W.heap.size, 1, none⟩) (Nat.le_refl _) _⟩

set_option maxHeartbeats 2000000 in
set_option maxRecDepth 100000 in
theorem rnew_yes (W : World) (A0 : Option Addr) (c0 : Nat) (o : Tp) (h0 : Sl W A0 c0 o) (ho : Rt o) :
    Calls Try.prog 26 #[.slice A0 o.length c0] W (RNewR W o) := by
  have hb := below_alloc (Below.refl W.heap.size W) (.cells #[.slice none 0 0, .slice none 0 0] 45)
  have h8 : o.length ≤ 8 := ho.1
  have hR := rright_calls A0 c0 o _ (h0.below hb) (by omega)
  rw [decide_eq_true ho] at hR
  have HB := Aside0.mk hb
  obtain ⟨ts, hEt, htl, htA, htc⟩ := rows_out (d := Kd.int .i64) rfl (Kd.C_F (Kd.heap_int .i64) h0.C)
  have hts := els_ints hEt
  obtain ⟨i1, hi', hz0', hz1', hz2'⟩ := info_parts (show (Try.prog.info? 3).map (fun i => (i.zero, i.size, i.bytes)) = some (some (.int .i64 0), 1, 8) by kernel_rfl)
  have HI1 := Aside0.mk (And.intro hi' (And.intro hz0' (And.intro hz1' hz2')))
  have hTs : ∀ w, Since W w → ∀ ad, A0 = some ad → ∀ j u, (o.map (Value.int .i64))[j]? = some u → w.cell? (ad.add j) = some u := fun w hw ad he j u hj => pw_cell_below hw.b (htc ad he j u (by rw [hts]; exact hj))
  have HTS := Aside0.mk (And.intro hTs htA)
  clear ho h0 hb hTs htA hts htc htl hEt hi' hz0' hz1' hz2'
  go_enter Try.func26, Try.ntmps26
  go_wp2_with (first
    | (go_at_call 43; refine hR.mono ?_; clear hR; rintro e w1 ⟨rfl, ⟨m, rfl⟩⟩; have S1 := Aside0.mk ((Since.mk HB.out).drewN m))
    | ((with_reducible refine gate_builtin (b := .append) (xs := #[.const (.slice none 0 0), .tmp 8]) rfl ?_); go_loud (refine wpList_append_any rfl _ _ 22 rfl W.heap.size 3 i1 (.int .i64 0) 8 Try.underlying22 HI1.out.1 HI1.out.2.1 HI1.out.2.2.1 HI1.out.2.2.2 rfl (.slice none 0 0) 0 [] rfl (World.ownsRow_nil _ _ _ _) A0 o.length c0 (o.map (Value.int .i64)) rfl (by simp) HTS.out.2 (HTS.out.1 _ S1.out) (fun u hu => by obtain ⟨z, _, rfl⟩ := List.mem_map.1 hu; rfl) (by unfold maxLen; omega) (by omega) S1.out.b.size ?_; intro v2 wb hown2 hg2; simp only [Nat.zero_add, List.nil_append] at hown2; have S2 := Aside0.mk (since_grown S1.out hg2 (fun k e => by simp [Value.ownBlock] at e)); have O2 := Aside0.mk hown2; obtain ⟨A2, c2, hv2⟩ := own_sl hown2; subst hv2; have hbk : wb.heap[W.heap.size]? = some (.cells #[.slice none 0 0, .slice none 0 0] 45 (0, 0)) := (hg2.block W.heap.size (by simp) (by simp [Value.ownBlock])).trans (heap_alloc_new W _); have k0 : wb.cell? ⟨W.heap.size, 0, none⟩ = some (.slice none 0 0) := cell_of_heap hbk 0; have k1 : wb.cell? ⟨W.heap.size, 1, none⟩ = some (.slice none 0 0) := cell_of_heap hbk 1; have f0 := free_of_heap hbk 0; have f1 := free_of_heap hbk 1; have HBK := Aside0.mk hbk; clear hown2 hg2 hbk)))
  obtain ⟨A', c', e', hle, hF⟩ := rows_in (d := Kd.int .i64) (ok := fun _ => False) rfl O2.out (Els.of (by simp) fun i hi hu => by rw [List.getElem_map]; exact fun W' _ => rfl) rfl
  injection e' with e1 e2 e3
  subst e1 e3
  refine bodyPost_ret (v := .tuple #[.agg #[.slice A2 o.length c2, .slice none 0 0], .int .i64 0]) (by simp [results, Try.results26, go_sem, k0, k1]) rfl ⟨A2, c2, rfl, hle, ?_, (S2.out.b.setCell (p := ⟨W.heap.size, 0, none⟩) (Nat.le_refl _) _).setCell (p := ⟨W.heap.size, 1, none⟩) (Nat.le_refl _) _⟩
  have hne : ∀ k, some k = (Value.slice A2 o.length c2).ownBlock → k ≠ W.heap.size := fun k hk e => by
    obtain ⟨cs, g⟩ := own_typed O2.out k hk.symm
    rw [e, HBK.out] at g
    injection g with g
    injection g with _ g3 _
    exact absurd g3 (by decide)
  refine Kd.F_mono (Kd.F_step hF fun k hk _ => ?_) fun k hk => hk.elim False.elim fun hk => own_ge O2.out k hk
  rcases hk with hk | hk
  · exact hk.elim
  · have := hne k hk
    rw [Below.heap_setCell _ _ _ _ this, Below.heap_setCell _ _ _ _ this]

end Go.Proofs.Ytcmllllbmgcnlaa.Tup

namespace Go.Proofs.Ytcmllllbmgcnlaa.Tup
open Go.RowKit Go.Lib Go.Shelf Go.Proofs.Ytcmllllbmgcnlaa.F Go.Proofs.YtcmllllbmgcnlaaW.PrintWords Go.Proofs.YtcmllllbmgcnlaaW.PrintLast Go.Proofs.YtcmllllbmgcnlaaW.PrintMore
set_option linter.unusedVariables false
set_option linter.unusedSimpArgs false

theorem wpListIn_append_any {F : Fence} {n0 : Nat} {P : Program} {w : World} {ops : Array Oper} {rest : List Oper} {o : Oper} {a : Act} {Q : Exit → Act → World → Prop} (hgd : o.guard = none) (s x : Operand) (t : TypeId)
    (ho : o.op = .call { callee := .builtin .append, args := #[s, x], argTypes := #[t, t] })
    (base : Nat) (e : TypeId) (i : TypeInfo) (z : Value) (bytes : Nat) (ht : P.underlying t = some (.slice e)) (hi : P.info? e = some i) (hz : i.zero = some z)
    (hsize : i.size = 1) (hby : i.bytes = bytes) (hzs : z.cells.size = 1)
    (v : Value) (n : Nat) (xs : List Value) (hs : a.eval s = v) (hown : w.ownsRow base e 1 v n xs)
    (A : Option Addr) (m c : Nat) (news : List Value) (hx : a.eval x = .slice A m c) (hl : news.length = m) (hA : A = none → m = 0) (hnews : ∀ ad, A = some ad → ∀ j u, news[j]? = some u → w.cell? (ad.add j) = some u) (h1 : ∀ u ∈ news, u.oneCell' = true)
    (h63 : n + m ≤ maxLen) (hbytes : (n + m) * bytes ≤ 140737488355328) (hbase : base ≤ w.heap.size)
    (h : ∀ v' w', w'.ownsRow base e 1 v' (n + m) (xs ++ news) → w.grownBy w' v.ownBlock → wpListIn F n0 P ops Q rest (a.put o.dst v') w') : wpListIn F n0 P ops Q (o :: rest) a w := by
  cases A with
  | some ad => exact wpListIn_append_own _ hgd s x t ho base e i z 1 bytes ht hi hz hsize hby hzs (by decide) v n xs hs hown ad m c news hx (by omega) (hnews ad rfl) h1 h63 hbytes hbase fun v' w' h2 h3 _ => h v' w' h2 h3
  | none =>
    obtain rfl := hA rfl
    obtain rfl : news = [] := List.length_eq_zero_iff.1 hl
    refine wpListIn_plain hgd fun K hK => ?_
    have hrun := run_append_nil (P := P) (w := w) base t o.type e i 1 ht hi v n xs hown c
    unfold Oper.wpIn
    refine ⟨?_, ?_⟩
    · simp [Oper.about, ho, resolve, Target.leads, Sem.run_pure]
    · rw [Oper.semAt_plain F _ _ (by rw [ho]; intro c hc'; cases hc')]
      simp [execOp, ho, resolve, invoke, builtin, hs, hx, hrun, Result.andThen]
      exact hK _ _ (h v w (by simpa using hown) ⟨rfl, rfl, rfl, Nat.le_refl _, fun _ _ _ => rfl⟩)

/-- Behind the reference's Insert. -/
structure RAfter (b j : Nat) (W w' : World) : Prop where
  k : Kept1 b W w'
  c : ∀ q v, W.cell? q = some v → q ≠ ⟨b, j + 1, none⟩ → w'.cell? q = some v
  f : ∀ q, q.block < W.heap.size → w'.frozen? q = W.frozen? q
theorem insTo_le {o t : Tp} {L : List Tp} (h : L.length ≤ 1024) : (insTo o L t).length ≤ 1024 := by
  unfold insTo insAns
  by_cases h1 : t.length ≠ o.length
  · simp [h1, h]
  · by_cases h2 : t ∈ L
    · simp [h1, h2, h]
    · by_cases h3 : 1024 ≤ L.length
      · simp [h1, h2, h3, h]
      · simp only [h1, h2, h3, ite_false, ite_true]
        rw [insO_len]; omega
theorem rins_after {ok : Nat → Prop} {W w' : World} {b j : Nat} {A : Option Addr} {c : Nat} {o : Tp} {Ar : Option Addr} {cr : Nat} {L : List Tp} {t : Tp} {e : Ending} (h : RefAt ok W b j A c o Ar cr L) (hb : ¬ ok b) (hr : RInsR ok W b j o L t e w') (hu : Up o L) :
    ∃ Ar' cr', RefAt (Plus ok W.heap.size) w' b j A c o Ar' cr' (insTo o L t) ∧ RAfter b j W w' := by
  have hblt := World.block_lt_of_cell? W _ h.c0
  obtain ⟨_, ⟨hf, hd⟩ | ⟨ht, w1, Ar', cr', hb1, rfl, hle, hF⟩⟩ := hr
  · have e : insTo o L t = L := by unfold insTo; rw [hf]; rfl
    rw [e]
    have hs := Since.ofDrawn hd
    refine ⟨Ar, cr, (h.since hs).mono fun k hk => .inl hk, Kept1.below hs.b, fun q v hq _ => pw_cell_below hs.b hq, fun q hq => hs.b.frozen hq⟩
  · have e : insTo o L t = insO o t L := by unfold insTo; rw [ht]; rfl
    have hs : Since W w1 := ⟨hb1⟩
    have hg := insTo_good (t := t) h.rto ⟨h.fit, hu⟩
    have hln := insTo_le (o := o) (t := t) h.le
    have h1 := pw_cell_below hb1 h.c1
    have hpb : ¬ Plus ok W.heap.size b := plus_not hb hblt
    have hst : ∀ k, Plus ok W.heap.size k → k < w1.heap.size → (w1.setCell ⟨b, j + 1, none⟩ (.slice Ar' (insO o t L).length cr')).heap[k]? = w1.heap[k]? := fun k hk _ => Below.heap_setCell _ _ _ _ (fun e : k = b => hpb (e ▸ hk))
    have hne : (⟨b, j, none⟩ : Addr) ≠ ⟨b, j + 1, none⟩ := fun e => by injection e; omega
    rw [e]
    refine ⟨Ar', cr', ⟨?_, World.cell?_setCell_same _ _ _ h1, h.so, hle, ?_, Kd.F_step hF hst, h.rto, fun a ha => hg.fit a (by rw [e]; exact ha), by rw [← e]; exact hln, ?_⟩, ?_, fun q v hq hne' => ?_, fun q hq => ?_⟩
    · rw [World.cell?_setCell_other _ _ _ _ (fun e => hne e.symm)]; exact pw_cell_below hb1 h.c0
    · exact Kd.F_step (Kd.F_mono (Kd.F_below h.F hb1) fun k hk => .inl hk) hst
    · rw [World.frozen?_setCell]; exact (hb1.frozen (p := ⟨b, j + 1, none⟩) hblt).trans h.fz
    · exact (Kept1.below hb1).trans (Kept1.set b w1 (j + 1) _)
    · rw [World.cell?_setCell_other _ _ _ _ (fun e => hne' e.symm)]; exact pw_cell_below hb1 hq
    · rw [World.frozen?_setCell]; exact hb1.frozen hq

set_option maxHeartbeats 2000000 in
set_option maxRecDepth 100000 in
theorem own_no (W : World) (A0 : Option Addr) (c0 : Nat) (o : Tp) (h0 : Sl W A0 c0 o) (hn : o.length ≤ 9223372036854775806) (A1 : Option Addr) (c1 n : Nat) (ho : ¬ Rt o) :
    Calls Try.prog 6 #[.slice A0 o.length c0, .slice A1 n c1] W fun e w' => e = .returned (.bool true) ∧ Below W.heap.size W w' := by
  have hN1 := new_code W A0 c0 o h0 1 (by rw [if_neg ho])
  have HO := Aside0.mk ho
  have H0 := Aside0.mk h0
  have HN := Aside0.mk hn
  clear ho h0 hn
  go_enter Try.func6, Try.ntmps6
  go_wp2_with (first
    | (go_at_call 16; refine hN1.mono ?_; clear hN1; rintro e w1 ⟨p1, rfl, hb1⟩; have HB1 := Aside0.mk hb1; have hR1 := rnew_no w1 A0 c0 o (H0.out.below hb1) HN.out HO.out; clear hb1)
    | (go_at_call 26; refine hR1.mono ?_; clear hR1; rintro e w2 ⟨rfl, hb2⟩; have HS2 := Aside0.mk (((Since.mk HB1.out).step hb2).alloc (.cells #[.slice none 0 0, .slice none 0 0] 45)); clear hb2)
    | (go_at_call 17; refine (alive_calls _).mono ?_; rintro e w3 ⟨rfl, hb3⟩; have HS3 := Aside0.mk (HS2.out.step hb3); clear hb3))
  go_ret
  exact ⟨rfl, HS3.out.b⟩

set_option maxHeartbeats 2000000 in
set_option maxRecDepth 100000 in
theorem own_many (W : World) (A0 : Option Addr) (c0 : Nat) (o : Tp) (h0 : Sl W A0 c0 o) (A1 : Option Addr) (c1 n : Nat) (ho : Rt o) (hn : 300 < n) :
    Calls Try.prog 6 #[.slice A0 o.length c0, .slice A1 n c1] W fun e w' => e = .returned (.bool true) ∧ Below W.heap.size W w' := by
  have hN1 := new_code W A0 c0 o h0 0 (by rw [if_pos ho])
  have HO := Aside0.mk ho
  have H0 := Aside0.mk h0
  have e5 : decide ((n : Int) > 300) = true := decide_eq_true (by omega)
  have e6 : (n : Int) > 300 := by omega
  clear ho h0 hn
  go_enter Try.func6, Try.ntmps6
  go_wp2_with (first
    | (go_at_call 16; refine hN1.mono ?_; clear hN1; rintro e w1 ⟨p1, rfl, hb1⟩; have HB1 := Aside0.mk hb1; have hR1 := rnew_yes w1 A0 c0 o (H0.out.below hb1) HO.out; clear hb1)
    | (go_at_call 26; refine hR1.mono ?_; clear hR1; rintro e w2 ⟨Ar, cr, rfl, hcr, hFr, hb2⟩; have HS2 := Aside0.mk (((Since.mk HB1.out).step hb2).alloc (.cells #[.slice Ar o.length cr, .slice none 0 0] 45)); clear hb2)
    | (go_at_call 17; refine (alive_calls _).mono ?_; rintro e w3 ⟨rfl, hb3⟩; have HS3 := Aside0.mk (HS2.out.step hb3); clear hb3))
  go_ret
  exact ⟨rfl, HS3.out.b⟩

end Go.Proofs.Ytcmllllbmgcnlaa.Tup

namespace Go.Proofs.Ytcmllllbmgcnlaa.Tup
open Go.RowKit Go.Lib Go.Shelf Go.Proofs.Ytcmllllbmgcnlaa.F Go.Proofs.YtcmllllbmgcnlaaW.PrintWords Go.Proofs.YtcmllllbmgcnlaaW.PrintLast Go.Proofs.YtcmllllbmgcnlaaW.PrintMore
set_option linter.unusedVariables false
set_option linter.unusedSimpArgs false
attribute [local go_sem] Oper.semAt_some

theorem RefAt.bound {ok : Nat → Prop} {W : World} {b j : Nat} {A : Option Addr} {c : Nat} {o : Tp} {Ar : Option Addr} {cr : Nat} {L : List Tp} (h : RefAt ok W b j A c o Ar cr L) : RefAt (fun k => ok k ∧ k < W.heap.size) W b j A c o Ar cr L :=
  ⟨h.c0, h.c1, h.so, h.sl, Kd.F_bound h.F, Kd.F_bound h.R, h.rto, h.fit, h.le, h.fz⟩
/-- Where a set and the reference's stand side by side. -/
def OwnI (W0 : World) (bs br : Nat) (Ab : Option Addr) (cb : Nat) (o : Tp) (Ar : Option Addr) (cr : Nat) (W : World) : Prop :=
  ∃ rs T Al cl, SetAt (fun k => k ≠ bs ∧ k ≠ br) W bs Ab cb o rs T ∧ RefAt (fun k => k ≠ bs ∧ k ≠ br) W br 0 Ar cr o Al cl T.io ∧ Below W0.heap.size W0 W
theorem refAt_row {ok : Nat → Prop} {W W1 : World} {b j : Nat} {A : Option Addr} {c : Nat} {o : Tp} {Ar : Option Addr} {cr : Nat} {L : List Tp} (h : RefAt ok W b j A c o Ar cr L) (hm : ∀ k, ok k → k < W.heap.size → W1.heap[k]? = W.heap[k]?) (hb : W1.heap[b]? = W.heap[b]?) : RefAt ok W1 b j A c o Ar cr L :=
  h.step hm (World.cell?_of_block hb) (World.cell?_of_block hb) (by simp only [World.frozen?, hb])

/-- 'for x := range it { .. }', outermost; the round's frame by what it was. -/
theorem range_outer1 {F : Fence} {n : Nat} {P : Program} {g : Operand} {ps : Array Tmp} {assign body : Code} {Q : Exit → Act → World → Prop} {a : Act} {w : World} (hd : F.depth = none) (hro : F.round = none)
    {gf : Nat} {lb : Array Value} (hg : a.eval g = .func (.func gf) #[] lb) (hFg : F.fn gf) (eg : ∀ args w, (callFunc gf args).run P w = .ok (.enter gf args) w)
    {fp : Nat → Prop} (hfp : ∀ k, fp k → k < w.heap.size) {xs : List Tp} (hseq : SeqR F P gf lb fp xs w) (hps : ps.size = 1) (asg : Array Value → Value → Array Value)
    (I : Nat → List Tp → World → Prop) (Ix : Nat → Code → List Tp → World → Prop) (hI : ∀ N, w.heap.size + 2 ≤ N → OwnFrom w.heap.size (I N)) (hIx : ∀ N c, w.heap.size + 2 ≤ N → OwnFrom w.heap.size (Ix N c)) (h0 : ∀ W', Below w.heap.size w W' → w.heap.size + 2 ≤ W'.heap.size → I W'.heap.size [] W')
    (hassign : ∀ l v W (K : Act → World → Prop), K { tmps := asg a.tmps v, defers := [] } W → assign.wpIn (F.inRound l) n P (Exit.then K (fun _ _ _ => False)) { tmps := (ps.zip #[v]).foldl (fun t (p, v) => t.setIfInBounds p v) a.tmps, defers := [] } W)
    (hbody : ∀ N l pre x A c W0 W1, w.heap.size + 2 ≤ N → w.heap.size ≤ l → (∃ r, W1.heap[l]? = some (.loop r)) → I N pre W0 → pre ++ [x] <+: xs → Handed1 W0 W1 A c x → I N pre W1 → body.wpIn (F.inRound l) n P (ownPostG w.heap.size (KpF (Priv fp (w.heap.size + 2) N)) (I N) (Ix N) (pre ++ [x]) W1) { tmps := asg a.tmps (.slice A x.length c), defers := [] } W1)
    (hdone : ∀ (N D : Nat) (W : World), w.heap.size + 2 ≤ N → w.heap.size ≤ D → I N xs W → W.heap[D]? = some (.deferred (some [])) → Q .normal { a with defers := { target := .collected D, args := #[] } :: a.defers } W)
    (hstop : ∀ (N D : Nat) (c : Code) (pre : List Tp) (W : World), w.heap.size + 2 ≤ N → w.heap.size ≤ D → pre <+: xs → Ix N c pre W → W.heap[D]? = some (.deferred (some [])) → c.wpIn F n P Q { a with defers := { target := .collected D, args := #[] } :: a.defers } W) :
    (Code.rangeFunc g ps assign body).wpIn F n P Q a w :=
  range_outer hd hro hg hFg eg hfp hseq hps I Ix hI hIx h0 (fun x A c => { tmps := asg a.tmps (.slice A x.length c), defers := [] }) (fun l x A c W K hK => hassign l _ W K hK) hbody hdone hstop
/-- All that was there stands as it stood. -/
def SinceN (w : World) (N : Nat) (_ : List Tp) (W : World) : Prop := N ≤ W.heap.size ∧ Below w.heap.size w W
theorem sinceN_own (w : World) (N : Nat) : OwnFrom w.heap.size (SinceN w N) := by
  rintro s W W' row ⟨h1, h2⟩ hg hr
  exact ⟨Nat.le_trans h1 hg.size, h2.grown hg h2.size fun k e => (hr k e).1⟩

set_option maxHeartbeats 4000000 in
set_option maxRecDepth 100000 in
theorem own_main (W : World) (A0 : Option Addr) (c0 : Nat) (o : Tp) (h0 : Sl W A0 c0 o) (A1 : Option Addr) (c1 n : Nat) (ho : Rt o) (ls : List Tp) (hls : Kd.C KT W A1 n ls) (hwid : ∀ t ∈ ls, t.length * 8 ≤ 140737488351232) (hc1 : n ≤ c1) (hn : n ≤ 300) :
    Calls Try.prog 6 #[.slice A0 o.length c0, .slice A1 n c1] W fun e w' => e = .returned (.bool true) ∧ Below W.heap.size W w' := by
  have hN1 := new_yes W A0 c0 o h0 ho
  have HO := Aside0.mk ho
  have H0 := Aside0.mk h0
  have HLS := Aside0.mk hls
  have HWD := Aside0.mk hwid
  have e5 : decide ((n : Int) > 300) = false := decide_eq_false (by omega)
  have e6 : ¬ (n : Int) > 300 := by omega
  obtain ⟨i1, hi', hz0', hz1', hz2'⟩ := info_parts (show (Try.prog.info? 3).map (fun i => (i.zero, i.size, i.bytes)) = some (some (.int .i64 0), 1, 8) by kernel_rfl)
  have HI1 := Aside0.mk (And.intro hi' (And.intro hz0' (And.intro hz1' hz2')))
  clear ho h0 hls hwid hi' hz0' hz1' hz2'
  refine callsIn_wide (n := 3) |>.1 ?_
  refine callsIn_of_wp_marks Try.func6 rfl trivial ?_ rfl
  simp only [Try.ntmps6, List.size_toArray, List.length_cons, List.length_nil, Nat.reduceAdd, Nat.reduceSub, Array.replicate_succ, Array.replicate_zero, List.push_toArray, List.append_toArray, List.nil_append, List.cons_append]
  gi_wp2_with (first
    | ((try refine ⟨trivial, ?_⟩); gi_at_call 16; refine (callsIn_wide.2 hN1).mono ?_; clear hN1; rintro e w1 ⟨hb1, bs, Ab, cb, rt1, rfl, hbs1, hS1⟩; have HB1 := Aside0.mk hb1; have HBS := Aside0.mk hbs1; have HS1 := Aside0.mk hS1; have hR1 := rnew_yes w1 A0 c0 o (H0.out.below hb1) HO.out; clear hb1 hbs1 hS1)
    | ((try refine ⟨trivial, ?_⟩); gi_at_call 26; refine (callsIn_wide.2 hR1).mono ?_; clear hR1; rintro e w2 ⟨Ar, cr, rfl, hcr, hFr, hb2⟩; have HS2 := Aside0.mk ((Since.mk HB1.out).step hb2); have HB2 := Aside0.mk hb2; have HFR := Aside0.mk (And.intro hcr hFr); clear hb2 hcr hFr)
    | ((try refine ⟨trivial, ?_⟩); gi_at_call 17; refine (callsIn_wide.2 (alive_calls _)).mono ?_; rintro e w3 ⟨rfl, hb3⟩; have HB3 := Aside0.mk hb3; clear hb3))
  have hsz : (w2.alloc (.cells #[.slice Ar o.length cr, .slice none 0 0] 45)).heap.size = w2.heap.size + 1 := by simp
  have hOwn : OwnI W bs w2.heap.size Ab cb o Ar cr w3 := by
    have hbk := heap_alloc_new w2 (.cells #[.slice Ar o.length cr, .slice none 0 0] 45)
    have hbk3 := (HB3.out.block w2.heap.size (by simp)).trans hbk
    have hs3 : Since w2 w3 := ((Since.refl w2).alloc _).step HB3.out
    have hs13 : Since w1 w3 := (Since.mk HB2.out).trans hs3
    have hlt1 := HS1.out.lt
    have hsz2 := HB2.out.size
    refine ⟨rt1, _, none, 0, (HS1.out.since hs13).mono (fun k hk => ⟨hk.2.2, by have := hk.2.1; omega⟩) (fun hk => hk.1 rfl), ⟨(cell_of_heap hbk3 0).trans rfl, (cell_of_heap hbk3 1).trans (by rw [BT.io_mk]; rfl), HFR.out.1, by rw [BT.io_mk]; simp [weave], Kd.F_mono (Kd.F_below (Kd.F_bound HFR.out.2) hs3.b) (fun k hk => ⟨by have := hk.1; omega, by have := hk.2; omega⟩), by rw [BT.io_mk]; exact Kd.F_nil KT _ _, HO.out, by rw [BT.io_mk]; simp [weave], by rw [BT.io_mk]; simp [weave], free_of_heap hbk3 1⟩, (HS2.out.trans hs3).b⟩
  have HOW := Aside0.mk hOwn
  have hne : Aside0 (bs < w2.heap.size ∧ W.heap.size ≤ bs ∧ W.heap.size ≤ w2.heap.size) := ⟨Nat.lt_of_lt_of_le HS1.out.lt HB2.out.size, HBS.out, HS2.out.b.size⟩
  obtain ⟨br, hbr⟩ : ∃ br, br = w2.heap.size := ⟨_, rfl⟩
  rw [← hbr] at HOW hne ⊢
  clear hOwn hsz hbr HS1 HB1 HBS HS2 HB2 HFR HB3
  gi_loopw [41] (fun v41 wr => ∃ i : Nat, i ≤ n ∧ v41 = .int .i64 i ∧ Aside0 (OwnI W bs br Ab cb o Ar cr wr)) (fun v41 _ => n - (intOf v41).toNat)
  case atStart => exact ⟨0, Nat.zero_le _, rfl, HOW⟩
  case round =>
    obtain ⟨i, hi, rfl, HOI⟩ := hrel
    obtain ⟨rs, T, Al, cl, hS, hR, hBW⟩ := HOI.out
    clear HOW
    by_cases hlt : i < n
    · have hlen : ls.length = n := HLS.out.1
      have hil : i < ls.length := by omega
      have hii : (i : Int) < (n : Int) := by omega
      obtain ⟨ad, Ai, ci, rfl, hcW, slW⟩ := tup_at HLS.out i hil
      obtain ⟨x, hx⟩ : ∃ x, x = ls[i] := ⟨_, rfl⟩
      rw [← hx] at hcW slW
      have hcell := pw_cell_below hBW hcW
      have hxw : x.length * 8 ≤ 140737488351232 := HWD.out x (by rw [hx]; exact List.getElem_mem _)
      obtain ⟨ts, hEt, htl, htA, htc⟩ := rows_out (d := Kd.int .i64) rfl (Kd.C_F (Kd.heap_int .i64) (slW.below hBW).C)
      have hts := els_ints hEt
      rw [hts] at htc
      have HTC := Aside0.mk htc
      have HTA := Aside0.mk htA
      have SLW := Aside0.mk slW
      have HS := Aside0.mk hS
      have HR := Aside0.mk hR
      have HBW := Aside0.mk hBW
      clear hx hlen hS hR hBW hcW slW hts htc htl hEt htA
      gi_wp2_with (first
        | (gi_at_builtin; go_loud (refine wpListIn_append_any rfl (.const (.slice none 0 0)) (.tmp 45) 22 rfl wr.heap.size 3 i1 (.int .i64 0) 8 Try.underlying22 HI1.out.1 HI1.out.2.1 HI1.out.2.2.1 HI1.out.2.2.2 rfl (.slice none 0 0) 0 [] rfl (World.ownsRow_nil _ _ _ _) Ai x.length ci (x.map (Value.int .i64)) rfl (by simp) HTA.out HTC.out (fun u hu => by obtain ⟨z, _, rfl⟩ := List.mem_map.1 hu; rfl) (by unfold maxLen; omega) (by omega) (Nat.le_refl _) ?_; intro v2 wb hown2 hg2; simp only [Nat.zero_add, List.nil_append] at hown2; have S2 := Aside0.mk (since_grown (Since.refl wr) hg2 (fun k e => by simp [Value.ownBlock] at e)); have O2 := Aside0.mk hown2; obtain ⟨A2, c2, hv2⟩ := own_sl hown2; subst hv2; have hIn := insert_calls wb bs (HS.out.bound.since S2.out) A2 c2 x (Handed1.sl (W := wr) ⟨S2.out.b, hown2⟩) (by have := HO.out.1; omega); clear hown2 hg2))
        | ((try refine ⟨trivial, ?_⟩); gi_at_call 18; refine (callsIn_wide.2 hIn).mono ?_; clear hIn; rintro e w4 ⟨rs3, T3, rfl, hS4, hio3, hk4⟩; have HS4 := Aside0.mk hS4; have HIO3 := Aside0.mk hio3; have HK4 := Aside0.mk hk4; have hR4 := refAt_row ((HR.out.bound.since S2.out)) (W1 := w4) (fun k hk hlt' => hk4.heap hlt' hk.1.1) (hk4.heap (Nat.lt_of_lt_of_le (World.block_lt_of_cell? wr _ HR.out.c0) S2.out.b.size) (by have := hne.out.1; omega)); have HR4 := Aside0.mk hR4; have HB4 := Aside0.mk (kept_below (below_then HBW.out HBW.out.size S2.out.b) hk4 hne.out.2.1); have hRi := rins_calls w4 br 0 hR4 HS.out.up Ai ci x (SLW.out.below HB4.out); clear hS4 hio3 hk4 hR4)
        | ((try refine ⟨trivial, ?_⟩); gi_at_call 27; refine (callsIn_wide.2 hRi).mono ?_; clear hRi; rintro e w5 hRR; have HRR := Aside0.mk hRR; obtain ⟨he5, _⟩ := hRR; subst he5))
      obtain ⟨Al5, cl5, hR5, hA5⟩ := rins_after HR4.out (fun hk => by have h1 := hk.1; exact h1.2 rfl) HRR.out HS.out.up
      have hlt4 : bs < w4.heap.size := HS4.out.lt
      have hsz2 := S2.out.b.size
      have hsz4 := HK4.out.g.size
      have hsz5 := hA5.k.g.size
      have hbrs : br < wr.heap.size := World.block_lt_of_cell? wr _ HR.out.c0
      have hbss := HS.out.lt
      have HS5 := Aside0.mk (HS4.out.step (W1 := w5) (fun k hk hlt' => hA5.k.heap hlt' (fun e => hk.elim (fun hk => hk.1.2 e) (fun hk => by omega))) (hA5.k.heap hlt4 (by have := hne.out.1; omega)))
      have HR5 := Aside0.mk hR5
      have hge2 := own_ge O2.out
      have hlt2 := own_lt O2.out
      have HO5 := Aside0.mk (own_move (w1 := w5) O2.out fun k hk => by
        have h1 := hge2 k hk.symm
        have h2 := hlt2 k hk.symm
        exact (hA5.k.heap (by omega) (by omega)).trans (HK4.out.heap h2 (by omega)))
      have HGL := Aside0.mk (And.intro hge2 hlt2)
      have HB5 := Aside0.mk (kept_below HB4.out hA5.k hne.out.2.2)
      have HSZ : Aside0 (wr.heap.size ≤ wb.heap.size ∧ wb.heap.size ≤ w4.heap.size ∧ w4.heap.size ≤ w5.heap.size ∧ br < wr.heap.size ∧ bs < wr.heap.size) := ⟨hsz2, hsz4, hsz5, hbrs, hbss⟩
      clear hR5 hA5 hlt4 hsz2 hsz4 hsz5 hbrs hbss hge2 hlt2 HRR
      obtain ⟨wo, hwo⟩ : ∃ wo : World, wo = wr := ⟨_, rfl⟩
      subst hwo
      obtain ⟨xn, hxn⟩ : ∃ xn, xn = x.length := ⟨_, rfl⟩
      have HXN := Aside0.mk hxn
      rw [← hxn] at hxw HO5 HGL ⊢
      clear hxn
      gi_loopw [54] (fun v54 wr => ∃ q : Nat, q ≤ xn ∧ v54 = .int .i64 q ∧ Aside0 (∃ xs', wr.ownsRow wo.heap.size 3 1 (.slice A2 xn c2) xn xs') ∧ Aside0 (w5.grownBy wr (Value.slice A2 xn c2).ownBlock)) (fun v54 _ => xn - (intOf v54).toNat)
      case atStart => exact ⟨0, Nat.zero_le _, rfl, ⟨_, HO5.out⟩, ⟨World.grownBy.refl _ _⟩⟩
      case round =>
        obtain ⟨q, hq, rfl, HOX, HGX⟩ := hrel
        by_cases hqx : q < xn
        · have hqi : (q : Int) < (xn : Int) := by omega
          obtain ⟨xs', hox⟩ := HOX.out
          obtain ⟨g, cap, e, hgg⟩ : ∃ g cap, Value.slice A2 xn c2 = .slice (some ⟨g, 0, none⟩) xn cap ∧ g < wr.heap.size := by
            rcases hox.2 with ⟨_, h⟩ | ⟨g, cap, cur, e, hb, hg, _⟩
            · omega
            · exact ⟨g, cap, e, (Array.getElem?_eq_some_iff.1 hg).1⟩
          injection e with ea eb ec
          subst ea ec
          have hl : xs'.length = xn := by have := hox.1; omega
          have hcl : wr.cell? ⟨g, q, none⟩ = some (xs'[q]'(by omega)) := by rw [hox.cellAt q (by omega)]; exact List.getElem?_eq_getElem _
          have hfr := hox.frozenAt q
          have hst := hox.stored q (.int .i64 (-99))
          have HST := Aside0.mk hst
          clear hox hst
          gi_wp2
          go_roundw
          case rel => exact ⟨q + 1, by omega, by go_num, ⟨_, HST.out.1⟩, ⟨HGX.out.trans HST.out.2⟩⟩
          case measure => simp [intOf]; omega
        · gi_wp2
          go_roundw
          case measure => simp [intOf]; omega
          case rel =>
            have hz := HSZ.out
            have hgl := HGL.out
            have hnb : ∀ k, (k < wo.heap.size ∨ wb.heap.size ≤ k) → some k ≠ (Value.slice A2 xn c2).ownBlock := fun k hk e => by
              have h1 := hgl.1 k e
              have h2 := hgl.2 k e
              omega
            have hstep : ∀ k, (k < wo.heap.size ∨ wb.heap.size ≤ k) → k < w5.heap.size → wr.heap[k]? = w5.heap[k]? := fun k hk hl => HGX.out.block k hl (hnb k hk)
            have hS6 := HS5.out.step (W1 := wr) (fun k hk hl => hstep k (hk.elim (fun h => .inl h.2) (fun h => .inr h)) hl) (hstep bs (.inl hz.2.2.2.2) (by omega))
            have hR6 := refAt_row HR5.out (W1 := wr) (fun k hk hl => hstep k (hk.elim (fun h => .inl h.2) (fun h => .inr (by omega))) hl) (hstep br (.inl hz.2.2.2.1) (by omega))
            rw [← HIO3.out] at hR6
            refine ⟨i + 1, by omega, by go_num, ⟨rs3, T3, Al5, cl5, hS6.mono (fun k hk => ?_) (fun hk => hk.1 rfl), hR6.mono (fun k hk => ?_), HB5.out.grown HGX.out HB5.out.size (fun k e => Nat.le_trans HBW.out.size (hgl.1 k e.symm))⟩⟩
            · rcases hk with h | h
              · exact h.1
              · exact ⟨by omega, by omega⟩
            · rcases hk with h | h
              · exact h.1
              · exact ⟨by omega, by omega⟩
    · obtain rfl : i = n := by omega
      have HS := Aside0.mk hS
      have HR := Aside0.mk hR
      have HBW := Aside0.mk hBW
      have hA1 := all_calls wr (.pointer (some ⟨bs, 0, none⟩)) ⟨_, rfl⟩
      clear hS hR hBW
      gi_wp2_with (first
        | ((try refine ⟨trivial, ?_⟩); gi_at_call 22; refine (callsIn_wide.2 hA1).mono ?_; clear hA1; rintro e w7 ⟨rfl, rfl⟩))
      have hb7 := Aside0.mk (Since.alloc (Since.refl wr) (.cells #[.pointer (some ⟨bs, 0, none⟩)] 24))
      have HCB := Aside0.mk ((cell_of_heap (heap_alloc_new wr (.cells #[.pointer (some ⟨bs, 0, none⟩)] 24)) 0).trans rfl)
      obtain ⟨w7, hw7⟩ : ∃ w7, w7 = wr.alloc (.cells #[.pointer (some ⟨bs, 0, none⟩)] 24) := ⟨_, rfl⟩
      rw [← hw7] at hb7 HCB ⊢
      clear hw7
      refine range_outer1 rfl rfl (gf := 52) (lb := #[.pointer (some ⟨wr.heap.size, 0, none⟩)]) rfl trivial listA_enters (fp := fun k => (k ≠ bs ∧ k ≠ br) ∧ k < w7.heap.size) (fun k hk => hk.2) (all_seq w7 wr.heap.size bs (HS.out.since hb7.out).bound (fun k hk => hk) HCB.out) rfl (fun t v => (t.setIfInBounds 64 v).setIfInBounds 13 v) (SinceN w7) (fun _ _ _ _ => False) (fun N _ => sinceN_own w7 N) (fun _ _ _ _ _ _ _ hs _ _ => hs) (fun W' hW' _ => ⟨Nat.le_refl _, hW'⟩) ?assign ?body ?done ?stop
      case assign =>
        intro l v W K hK
        gi_wp2
        exact hK
      case body =>
        rintro N l pre x A c W0 W1 hNw hl hrec ⟨hN0, hb0⟩ hpre ⟨hh1, hh2⟩ ⟨hNW, hB⟩
        have HH2 := Aside0.mk hh2
        have HBB := Aside0.mk hB
        have HNN : Aside0 (N ≤ W0.heap.size ∧ w7.heap.size ≤ W0.heap.size ∧ N ≤ W1.heap.size) := ⟨hN0, hb0.size, hNW⟩
        have hx9 : x.length ≤ 9223372036854775807 := by have := (Handed1.sl (W := W0) ⟨hh1, hh2⟩).small; exact this
        clear hN0 hb0 hh1 hh2 hNW hB hrec hpre
        dsimp only
        gi_wp2
        obtain ⟨xn, hxn⟩ : ∃ xn, xn = x.length := ⟨_, rfl⟩
        rw [← hxn] at HH2 hx9 ⊢
        clear hxn
        gi_loopw [67] (fun v67 wq => ∃ q : Nat, q ≤ xn ∧ v67 = .int .i64 q ∧ Aside0 (∃ xs', wq.ownsRow W0.heap.size 3 1 (.slice A xn c) xn xs') ∧ Aside0 (W1.grownBy wq (Value.slice A xn c).ownBlock)) (fun v67 _ => xn - (intOf v67).toNat)
        case atStart => exact ⟨0, Nat.zero_le _, rfl, ⟨_, HH2.out⟩, ⟨World.grownBy.refl _ _⟩⟩
        case round =>
          obtain ⟨q, hq, rfl, HOX, HGX⟩ := hrel
          by_cases hqx : q < xn
          · have hqi : (q : Int) < (xn : Int) := by omega
            obtain ⟨xs', hox⟩ := HOX.out
            obtain ⟨g, cap, e, hgg⟩ : ∃ g cap, Value.slice A xn c = .slice (some ⟨g, 0, none⟩) xn cap ∧ g < wr.heap.size := by
              rcases hox.2 with ⟨_, h⟩ | ⟨g, cap, cur, e, hb, hg, _⟩
              · omega
              · exact ⟨g, cap, e, (Array.getElem?_eq_some_iff.1 hg).1⟩
            injection e with ea eb ec
            subst ea ec
            have hl : xs'.length = xn := by have := hox.1; omega
            have hcl : wr.cell? ⟨g, q, none⟩ = some (xs'[q]'(by omega)) := by rw [hox.cellAt q (by omega)]; exact List.getElem?_eq_getElem _
            have hfr := hox.frozenAt q
            have hst := hox.stored q (.int .i64 (-77))
            have HST := Aside0.mk hst
            clear hox hst
            gi_wp2
            go_roundw
            case rel => exact ⟨q + 1, by omega, by go_num, ⟨_, HST.out.1⟩, ⟨HGX.out.trans HST.out.2⟩⟩
            case measure => simp [intOf]; omega
          · gi_wp2
            have hge := own_ge HH2.out
            have hng : ∀ k, k < W0.heap.size → some k ≠ (Value.slice A xn c).ownBlock := fun k hk e => by have := hge k e; omega
            refine ⟨KeepsOthers.from (KeepsOthers.of_grownBy HGX.out fun j o ej hj => ?_) _, ⟨HGX.out.size, fun k hk hlt => HGX.out.block k hlt (hng k ?_)⟩, Nat.le_trans ?_ HGX.out.size, HBB.out.grown HGX.out HBB.out.size fun k e => Nat.le_trans HNN.out.2.1 (hge k e.symm)⟩
            · obtain ⟨cs, hcs⟩ := own_typed HH2.out j ej
              rw [hcs] at hj; cases hj; rfl
            · rcases hk with hk | hk
              · exact Nat.lt_of_lt_of_le hk.2 HNN.out.2.1
              · have := hk.2; have := HNN.out.1; omega
            · exact HNN.out.2.2
      case done =>
        rintro N D W7 hNw hD ⟨hN, hB⟩ hK
        have S7 := Aside0.mk (hb7.out.step hB)
        have HK := Aside0.mk hK
        clear hN hB hK
        have hOr := order_calls W7 bs (HS.out.since S7.out)
        gi_wp2_with (first
          | ((try refine ⟨trivial, ?_⟩); gi_at_call 28; refine (callsIn_wide.2 hOr).mono ?_; clear hOr; rintro e w8 ⟨A8, c8, rfl, hh8⟩; have HH8 := Aside0.mk hh8; clear hh8))
        obtain ⟨wz, hwz⟩ : ∃ wz : World, wz = wr := ⟨_, rfl⟩
        subst hwz
        obtain ⟨on, hon⟩ : ∃ on, on = o.length := ⟨_, rfl⟩
        have HON := Aside0.mk hon
        have hH8 := HH8.out
        have HB8 := Aside0.mk hH8.1
        have HO8 := Aside0.mk hH8.2
        clear hH8 HH8
        rw [← hon] at HO8 ⊢
        have hon8 : on ≤ 8 := by rw [hon]; exact HO.out.1
        clear hon
        gi_loopw [78] (fun v78 wq => ∃ q : Nat, q ≤ on ∧ v78 = .int .i64 q ∧ Aside0 (∃ xs', wq.ownsRow W7.heap.size 3 1 (.slice A8 on c8) on xs') ∧ Aside0 (w8.grownBy wq (Value.slice A8 on c8).ownBlock)) (fun v78 _ => on - (intOf v78).toNat)
        case atStart => exact ⟨0, Nat.zero_le _, rfl, ⟨_, HO8.out⟩, ⟨World.grownBy.refl _ _⟩⟩
        case round =>
          obtain ⟨q, hq, rfl, HOX, HGX⟩ := hrel
          by_cases hqx : q < on
          · have hqi : (q : Int) < (on : Int) := by omega
            obtain ⟨xs', hox⟩ := HOX.out
            obtain ⟨g, cap, e, hgg⟩ : ∃ g cap, Value.slice A8 on c8 = .slice (some ⟨g, 0, none⟩) on cap ∧ g < wr.heap.size := by
              rcases hox.2 with ⟨_, h⟩ | ⟨g, cap, cur, e, hb, hg, _⟩
              · omega
              · exact ⟨g, cap, e, (Array.getElem?_eq_some_iff.1 hg).1⟩
            injection e with ea eb ec
            subst ea ec
            have hl : xs'.length = on := by have := hox.1; omega
            have hcl : wr.cell? ⟨g, q, none⟩ = some (xs'[q]'(by omega)) := by rw [hox.cellAt q (by omega)]; exact List.getElem?_eq_getElem _
            have hfr := hox.frozenAt q
            have hst := hox.stored q (.int .i64 (-5))
            have HST := Aside0.mk hst
            clear hox hst
            gi_wp2
            go_roundw
            case rel => exact ⟨q + 1, by omega, by go_num, ⟨_, HST.out.1⟩, ⟨HGX.out.trans HST.out.2⟩⟩
            case measure => simp [intOf]; omega
          · have S9 := Aside0.mk (since_grown (S7.out.step HB8.out) HGX.out fun k e => Nat.le_trans S7.out.b.size (own_ge HO8.out k e.symm))
            have HK9 := Aside0.mk ((HGX.out.block D (Nat.lt_of_lt_of_le (Array.getElem?_eq_some_iff.1 HK.out).1 HB8.out.size) (fun e => by have := own_ge HO8.out D e; have := (Array.getElem?_eq_some_iff.1 HK.out).1; omega)).trans (blk HB8.out HK.out))
            gi_wp2
            refine wpIn_wide.2 ?_
            have HS9 := Aside0.mk (HS.out.since S9.out)
            have HR9 := Aside0.mk (HR.out.since S9.out)
            have hS1 := (Since.refl wr).drew
            obtain ⟨m, hm⟩ : ∃ m, m = T.io.length := ⟨_, rfl⟩
            have HM := Aside0.mk hm
            have HKP := Aside0.mk (show ∀ w', Since wr w' → (w'.cell? ⟨br, 0, none⟩ = some (.slice Ar on cr) ∧ w'.cell? ⟨br, 1, none⟩ = some (.slice Al m cl)) ∧ Since wr w' from fun w' hs => ⟨⟨(HR9.out.since hs).c0.trans (by rw [HON.out]), (HR9.out.since hs).c1.trans (by rw [HM.out])⟩, hs⟩)
            have HSM := Aside0.mk (fun (w2 : World) (A10 : Option Addr) (c10 : Nat) (hs : Since wr w2) (hc : m ≤ c10) (hF : Kd.F KT w2 (fun _ => True) A10 m T.io) => show Calls Try.prog 20 #[.slice A10 m c10, .slice Al m cl] w2 (fun e w' => e = .returned (.bool true) ∧ Drawn0 w2 w') by
              have h := same2_calls A10 c10 T.io Al cl T.io w2 (by rw [← HM.out]; exact Kd.F_now hF) (by rw [← HM.out]; exact hc) (Kd.F_now (HR9.out.since hs).R) HR9.out.sl 8 (fun t ht => by have := (HS.out.fit t ht).1; have := HO.out.1; omega) (by omega) (by have := HS.out.le; omega)
              rw [decide_eq_true rfl, ← HM.out] at h
              exact h)
            have HSO := Aside0.mk (fun (w2 w3 : World) (A10 : Option Addr) (c10 : Nat) (hs : Since wr w2) (hh : Handed1 w2 w3 A10 c10 o) => show Calls Try.prog 25 #[.slice A10 on c10, .slice Ar on cr] w3 (fun e w' => e = .returned (.bool true) ∧ Drawn0 w3 w') by
              have h := same_calls A10 c10 o Ar cr o w3 hh.sl (HR9.out.since (hs.step hh.1)).slo (by have := HO.out.1; omega)
              rw [decide_eq_true rfl, ← HON.out] at h
              exact h)
            have HLS := Aside0.mk (fun (b : Nat) (w2 : World) (hs : Since wr w2) (hb : w2.cell? ⟨b, 0, none⟩ = some (.pointer (some ⟨bs, 0, none⟩))) => show Calls Try.prog 21 #[.func (.func 52) #[] #[.pointer (some ⟨b, 0, none⟩)]] w2 (fun e w' => ∃ A c, e = .returned (.slice A m c) ∧ m ≤ c ∧ Kd.F KT w' (fun _ => True) A m T.io ∧ Since wr w') by
              refine (listA_calls _ b bs (HS9.out.since hs) hb).mono ?_
              rintro e w' ⟨A, c, rfl, h1, h2, h3⟩
              rw [← HM.out] at h1 h2 ⊢
              exact ⟨A, c, rfl, h1, Kd.F_mono h2 fun _ _ => trivial, hs.step h3⟩)
            have HOR := Aside0.mk (fun (w2 : World) (hs : Since wr w2) => show Calls Try.prog 28 #[.pointer (some ⟨bs, 0, none⟩)] w2 (fun e w' => ∃ A c, e = .returned (.slice A on c) ∧ Handed1 w2 w' A c o ∧ Since wr w') by
              refine (order_calls w2 bs (HS9.out.since hs)).mono ?_
              rintro e w' ⟨A, c, rfl, hh⟩
              rw [← HON.out]
              exact ⟨A, c, rfl, hh, hs.step hh.1⟩)
            clear hm
            go_region_held3 (fun w' => (w'.cell? ⟨br, 0, none⟩ = some (.slice Ar on cr) ∧ w'.cell? ⟨br, 1, none⟩ = some (.slice Al m cl)) ∧ Since wr w')
              (first | exact HKP.out _ hS1 | (go_split_ands; first | exact HKP.out _ (by assumption) | exact HKP.out _ (Since.step (by assumption) (by assumption)) | exact HKP.out _ (Since.alloc (by assumption) _) | exact HKP.out _ (Since.trans (by assumption) (Since.ofDrawn (by assumption)))))
              (first
              | (go_at_call 22; refine (all_calls _ (.pointer (some ⟨bs, 0, none⟩)) ⟨_, rfl⟩).mono ?_; rintro e wA ⟨rfl, rfl⟩)
              | (go_at_call 21; ((with_reducible refine (HLS.out _ _ ?s1 ?b1).mono ?_)); (case s1 => (go_split_ands; assumption)); (case b1 => exact (cell_of_heap (heap_alloc_new _ (.cells #[.pointer (some ⟨bs, 0, none⟩)] 24)) 0).trans rfl); rintro e w10 ⟨A10, c10, rfl, hc10, hF10, hs10⟩)
              | (go_at_call 20; ((with_reducible refine (HSM.out _ A10 c10 hs10 hc10 hF10).mono ?_)); rintro e w11 ⟨rfl, hd11⟩)
              | (go_at_call 28; ((with_reducible refine (HOR.out _ ?s2).mono ?_)); (case s2 => (go_split_ands; assumption)); rintro e w12 ⟨A12, c12, rfl, hh12, hs12⟩)
              | (go_at_call 25; ((with_reducible refine (HSO.out _ _ A12 c12 (Since.trans hs10 (Since.ofDrawn hd11)) hh12).mono ?_)); rintro e w13 ⟨rfl, hd13⟩))
            have hs13 : Since wr w13 := by go_split_ands; assumption
            clear hs10 hs12 hh12 hF10 hd11 hd13
            gi_wp2
            refine ⟨by simp, .inl ⟨_, _, rfl, run_takeDeferred (blk hs13.b HK9.out), ?_⟩⟩
            exact ⟨_, results_tmp rfl _ _ _, rfl, (below_then HBW.out HBW.out.size (S9.out.trans hs13).b).grown (grownBy_putObj' w13 D (.deferred none)) (below_then HBW.out HBW.out.size (S9.out.trans hs13).b).size (fun k e => by cases e; have := hb7.out.b.size; have := HBW.out.size; omega)⟩
      case stop =>
        rintro N D c pre W _ _ _ h _
        exact h.elim

theorem own_law_calls {W : World} (A0 : Option Addr) (c0 : Nat) (o : Tp) (h0 : Sl W A0 c0 o) (hw : ∀ x ∈ o, (Lit.int .i64 x).wf = true) (hy : o.length * 8 ≤ 140737488351232) (A1 : Option Addr) (c1 : Nat) (ls : List Tp) (h1 : Rs W A1 c1 ls) (hz : ∀ t ∈ ls, t.length * 8 ≤ 140737488351232) (W' : World) (e : W' = W) :
    Calls Try.prog 6 #[.slice A0 o.length c0, .slice A1 ls.length c1] W' fun e w' => e = .returned (.bool true) ∧ Below W.heap.size W w' := by
  subst e
  by_cases ho : Rt o
  · by_cases hn : 300 < ls.length
    · exact own_many W' A0 c0 o h0 A1 c1 _ ho hn
    · exact own_main W' A0 c0 o h0 A1 c1 _ ho ls h1.C hz h1.le (by omega)
  · exact own_no W' A0 c0 o h0 (by omega) A1 c1 _ ho

end Go.Proofs.Ytcmllllbmgcnlaa.Tup

namespace Go.Proofs.Ytcmllllbmgcnlaa.Tup
open Go.RowKit Go.Lib Go.Shelf Go.Proofs.Ytcmllllbmgcnlaa.F Go.Proofs.YtcmllllbmgcnlaaW.PrintWords Go.Proofs.YtcmllllbmgcnlaaW.PrintLast Go.Proofs.YtcmllllbmgcnlaaW.PrintMore
set_option linter.unusedVariables false
set_option linter.unusedSimpArgs false

/-- 'for x := range it { .. }', within a round. -/
theorem range_inner {F : Fence} {n : Nat} {P : Program} {g : Operand} {ps : Array Tmp} {assign body : Code} {Q : Exit → Act → World → Prop} {a : Act} {w : World} (hd : F.depth = none) {l₀ : Nat} {r₀ : Loop} (hro : F.round = some l₀) (hl₀ : w.heap[l₀]? = some (.loop r₀))
    {gf : Nat} {lb : Array Value} (hg : a.eval g = .func (.func gf) #[] lb) (hFg : F.fn gf) (eg : ∀ args w, (callFunc gf args).run P w = .ok (.enter gf args) w)
    {fp : Nat → Prop} (hfp : ∀ k, fp k → k < w.heap.size) {xs : List Tp} (hseq : SeqR F P gf lb fp xs w) (hps : ps.size = 1)
    (I : Nat → List Tp → World → Prop) (Ix : Nat → Code → List Tp → World → Prop) (hI : ∀ N, w.heap.size + 1 ≤ N → OwnFrom w.heap.size (I N)) (hIx : ∀ N c, w.heap.size + 1 ≤ N → OwnFrom w.heap.size (Ix N c)) (h0 : ∀ W', Below w.heap.size w W' → w.heap.size + 1 ≤ W'.heap.size → I W'.heap.size [] W') (asg : Array Value → Value → Array Value)
    (hassign : ∀ l v W (K : Act → World → Prop), K { tmps := asg a.tmps v, defers := [] } W → assign.wpIn (F.inRound l) n P (Exit.then K (fun _ _ _ => False)) { tmps := (ps.zip #[v]).foldl (fun t (p, v) => t.setIfInBounds p v) a.tmps, defers := [] } W)
    (hbody : ∀ N l pre x A c W0 W1, w.heap.size + 1 ≤ N → w.heap.size ≤ l → (∃ r, W1.heap[l]? = some (.loop r)) → I N pre W0 → pre ++ [x] <+: xs → Handed1 W0 W1 A c x → I N pre W1 → body.wpIn (F.inRound l) n P (ownPostG w.heap.size (KpF (Priv fp (w.heap.size + 1) N)) (I N) (Ix N) (pre ++ [x]) W1) { tmps := asg a.tmps (.slice A x.length c), defers := [] } W1)
    (hdone : ∀ (N : Nat) (W : World), w.heap.size + 1 ≤ N → I N xs W → Q .normal a W)
    (hstop : ∀ (N : Nat) (c : Code) (pre : List Tp) (W : World), w.heap.size + 1 ≤ N → pre <+: xs → Ix N c pre W → c.wpIn F n P Q a W) :
    (Code.rangeFunc g ps assign body).wpIn F n P Q a w := by
  refine wpIn_rangeFunc ?_
  intro fn hfn
  rw [hro]
  obtain ⟨W1, hW1⟩ : ∃ W1, w.alloc (.loop (recOf fn a.tmps ps assign body r₀.defers .ready none)) = W1 := ⟨_, rfl⟩
  have hL1 : W1.heap[w.heap.size]? = some (.loop (recOf fn a.tmps ps assign body r₀.defers .ready none)) := by rw [← hW1]; exact World.alloc_heap_new w _
  have hb1 : Below w.heap.size w W1 := by rw [← hW1]; exact below_alloc (Below.refl _ _) _
  have hw1 : W1.heap.size = w.heap.size + 1 := by rw [← hW1]; simp
  refine ⟨w.heap.size, [], W1, { target := .fn (.func gf) lb, args := #[.func (.yield w.heap.size) #[] #[]] }, W1, gf,
    #[.func (.yield w.heap.size) #[] #[]] ++ lb, W1, ?_, ?_, ?_, ?_, (fun h => by rw [hd] at h; cases h), ?_⟩
  · rw [← hW1]; exact run_enterLoop_inner hl₀ _ _ _ _ _
  · simp only [resolve, hg]
    simp [go_sem]
  · intro f' hf'; simp [Target.leads] at hf'; subst hf'; exact hFg
  · simp [invoke, go_sem, eg]
  · have hR : ∀ N, W1.heap.size ≤ N → _ := fun N hN => rounds_of (n := n) (P := P) (B := w.heap.size) (l := w.heap.size) (d := r₀.defers) (tm := a.tmps) (ps := ps) (assign := assign) (body := body) hd (Nat.le_refl _) hfn (fp := Priv fp (w.heap.size + 1) N) hps (I N) (Ix N) (hI N (by omega)) (fun c => hIx N c (by omega)) [] (fun D hD => by simp at hD) (fun k hk e => hk.elim (fun h => absurd (hfp k h) (by omega)) (fun h => by omega)) (fun x A c => { tmps := asg a.tmps (.slice A x.length c), defers := [] }) (fun x A c W K hK => hassign _ _ W K hK) (fun pre x A c W0 W1 => hbody N _ pre x A c W0 W1 (by omega) (by omega))
    have keep : ∀ {A B : World} {row : Option Nat} (k : Nat) (o : Obj), A.grownBy B row → (∀ r, row = some r → W1.heap.size ≤ r ∧ ∃ o : Obj, A.heap[r]? = some o ∧ o.isWalk = true) → A.heap[k]? = some o → k < W1.heap.size → B.heap[k]? = some o := fun k o hg hr hk hlt =>
      (hg.block k (Array.getElem?_eq_some_iff.1 hk).1 (fun e => by have := (hr k e.symm).1; omega)).trans hk
    have hnw : ∀ {A : World} {row : Option Nat}, (∀ r, row = some r → W1.heap.size ≤ r ∧ ∃ o : Obj, A.heap[r]? = some o ∧ o.isWalk = true) → (∀ r, row = some r → w.heap.size ≤ r ∧ ∃ o : Obj, A.heap[r]? = some o ∧ o.isCells = false) :=
      fun hr r e => by obtain ⟨hB, o, ho, hw⟩ := hr r e; exact ⟨by omega, o, ho, Obj.not_cells_of_walk hw⟩
    rw [← hw1] at hR
    refine (hseq w.heap.size (fun N pre W => I N pre W ∧ W.heap[w.heap.size]? = some (.loop (recOf fn a.tmps ps assign body r₀.defers .ready none)) ∧ Marks [] W) (fun N pre W => ∃ c, Ix N c pre W ∧ W.heap[w.heap.size]? = some (.loop (recOf fn a.tmps ps assign body r₀.defers .done (some c))) ∧ Marks [] W) W1 hb1
      (fun N hN s A B row hs hg' hr => ⟨hI N (by omega) s A B row hs.1 hg' (hnw hr), keep _ _ hg' hr hs.2.1 (by omega), fun D hD => by simp at hD⟩)
      (fun N hN s A B row hs hg' hr => by
        obtain ⟨c, hc, hl, hk⟩ := hs
        exact ⟨c, hIx N c (by omega) s A B row hc hg' (hnw hr), keep _ _ hg' hr hl (by omega), fun D hD => by simp at hD⟩) hR
      (fun W' hW' => ⟨h0 W' (below_then hb1 hb1.size hW') (by have := hW'.size; omega), blk hW' hL1, fun D hD => by simp at hD⟩) (n - 1)).mono ?_
    rintro e W2 ⟨⟨v, rfl⟩, N, hN, (⟨hi, hl, hk⟩ | ⟨pre, hpre, c, hi, hl, hk⟩)⟩
    · exact ⟨none, _, run_endLoop hl (by simp [recOf]), hdone N _ (by omega) ((hI N (by omega)).putObj _ hi (Nat.le_refl _) hl rfl)⟩
    · exact ⟨some c, _, run_endLoop hl (by simp [recOf]), hstop N c pre _ (by omega) hpre ((hIx N c (by omega)).putObj _ hi (Nat.le_refl _) hl rfl)⟩

end Go.Proofs.Ytcmllllbmgcnlaa.Tup

namespace Go.Proofs.Ytcmllllbmgcnlaa.Tup
open Go.RowKit Go.Lib Go.Shelf Go.Proofs.Ytcmllllbmgcnlaa.F Go.Proofs.YtcmllllbmgcnlaaW.PrintWords Go.Proofs.YtcmllllbmgcnlaaW.PrintLast Go.Proofs.YtcmllllbmgcnlaaW.PrintMore
set_option linter.unusedVariables false
set_option linter.unusedSimpArgs false

/-- Every cell that W has, W' has. -/
def CellsIn (W W' : World) : Prop := ∀ a v, W.cell? a = some v → W'.cell? a = some v
def Kmono {α : Type} (d : Kd α) : Prop := ∀ W W' A n xs, CellsIn W W' → d.C W A n xs → d.C W' A n xs
theorem row_mono {α : Type} {R R' : α → List Value → Prop} {sz : Nat} {W W' : World} {A : Option Addr} {n : Nat} {xs : List α} (hR : ∀ p c, R p c → R' p c) (hc : CellsIn W W') (h : ReadsRow R sz W A n xs) : ReadsRow R' sz W' A n xs := by
  refine ⟨h.1, h.2.1, fun hn => ?_⟩
  obtain ⟨ad, e, hh⟩ := h.2.2 hn
  refine ⟨ad, e, fun j p hj => ?_⟩
  obtain ⟨c, h1, h2, h3⟩ := hh j p hj
  exact ⟨c, h1, hR p c h2, fun i u hu => hc _ _ (h3 i u hu)⟩
theorem int_mono : Kmono (Kd.int .i64) := fun W W' A n xs hc h => row_mono (fun p c h => h) hc h
theorem kn_mono : Kmono KN := fun W W' A n xs hc h => row_mono (fun p c h => h) hc h
theorem kt_mono : Kmono KT := fun W W' A n xs hc h => row_mono (fun p c ⟨A, cc, e, hl, hC⟩ => ⟨A, cc, e, hl, int_mono _ _ _ _ _ hc hC⟩) hc h

theorem cell_cells {W : World} {a : Addr} {v : Value} (h : W.cell? a = some v) : IsCells W a.block := by
  unfold World.cell? at h
  split at h
  · rename_i c e f hb
    exact ⟨_, hb, rfl⟩
  · simp at h
open Classical in
theorem F_cells {α : Type} {d : Kd α} (hd : Kmono d) {W : World} {ok : Nat → Prop} {A : Option Addr} {n : Nat} {xs : List α} (h : Kd.F d W ok A n xs) : Kd.F d W (fun k => ok k ∧ IsCells W k) A n xs := by
  intro W' hW'
  obtain ⟨f, hf⟩ : ∃ f : Nat → Obj, f = fun k => if ok k ∧ k < W.heap.size then (W.heap[k]?).getD (.deferred none) else (W'.heap[k]?).getD (.deferred none) := ⟨_, rfl⟩
  obtain ⟨W2, hW2⟩ : ∃ W2 : World, W2 = { W' with heap := Array.ofFn (n := W.heap.size + W'.heap.size) fun k => f k.val } := ⟨_, rfl⟩
  have hget : ∀ k, k < W.heap.size + W'.heap.size → W2.heap[k]? = some (f k) := fun k hk => by rw [hW2]; simp [hk]
  have h2 : d.C W2 A n xs := h W2 fun k hk hlt => by
    rw [hget k (by omega), hf]
    simp only [hk, hlt, and_self, if_true]
    rw [Array.getElem?_eq_getElem hlt]; rfl
  refine hd _ _ _ _ _ (fun a v hv => ?_) h2
  obtain ⟨ob, hob, hoc⟩ := cell_cells hv
  have hlt2 : a.block < W.heap.size + W'.heap.size := by
    have := (Array.getElem?_eq_some_iff.1 hob).1
    rw [hW2] at this; simpa using this
  rw [hget _ hlt2] at hob
  injection hob with hob
  have hblk : W'.heap[a.block]? = W2.heap[a.block]? := by
    rw [hget _ hlt2]
    rw [hf] at hob ⊢
    by_cases hk : ok a.block ∧ a.block < W.heap.size
    · simp only [hk, and_self, if_true] at hob ⊢
      rw [Array.getElem?_eq_getElem hk.2] at hob ⊢
      have hc : IsCells W a.block := ⟨ob, by rw [Array.getElem?_eq_getElem hk.2, ← hob]; rfl, hoc⟩
      rw [hW' a.block ⟨hk.1, hc⟩ hk.2, Array.getElem?_eq_getElem hk.2]; rfl
    · dsimp only at hob ⊢
      rw [if_neg hk] at hob ⊢
      cases hx : W'.heap[a.block]? with
      | none => rw [hx] at hob; simp at hob; rw [← hob] at hoc; cases hoc
      | some y => rfl
  rw [World.cell?_of_block hblk]; exact hv
theorem NodeF.cells {ok : Nat → Prop} {W : World} {b : Nat} {T : BT} (h : NodeF ok W b T) : NodeF (fun k => ok k ∧ IsCells W k) W b T := by
  induction h with
  | mk b A0 c0 A1 c1 ts kids ps hok hc0 hc1 hle0 hle1 hlp hT hN hk ih =>
    exact .mk b A0 c0 A1 c1 ts kids ps ⟨hok, cell_cells hc0⟩ hc0 hc1 hle0 hle1 hlp (F_cells kt_mono hT) (F_cells kn_mono hN) ih
theorem SetAt.cells {ok : Nat → Prop} {W : World} {bs : Nat} {A : Option Addr} {c : Nat} {o : Tp} {rt : Nat} {T : BT} (h : SetAt ok W bs A c o rt T) : SetAt (fun k => ok k ∧ IsCells W k) W bs A c o rt T :=
  ⟨h.hp, h.so, F_cells int_mono h.F, h.nd.cells, h.wf, h.rto, h.fit, h.up, h.le, fun hk => h.nok hk.1⟩
/-- Objects that are no cells may turn. -/
theorem SetAt.others {ok : Nat → Prop} {W W1 : World} {bs : Nat} {A : Option Addr} {c : Nat} {o : Tp} {rt : Nat} {T : BT} (h : SetAt ok W bs A c o rt T) {row : Option Nat} (hg : W.grownBy W1 row) (hr : ∀ r, row = some r → ∃ o : Obj, W.heap[r]? = some o ∧ o.isCells = false) : SetAt ok W1 bs A c o rt T :=
  (h.cells.step (W1 := W1) (fun k hk hlt => (isCells_kept hk.2 hg hr).1) (isCells_kept ⟨_, h.hp, rfl⟩ hg hr).1).mono (fun k hk => hk.1) h.nok

end Go.Proofs.Ytcmllllbmgcnlaa.Tup

namespace Go.Proofs.Ytcmllllbmgcnlaa.Tup
open Go.RowKit Go.Lib Go.Shelf Go.Proofs.Ytcmllllbmgcnlaa.F Go.Proofs.YtcmllllbmgcnlaaW.PrintWords Go.Proofs.YtcmllllbmgcnlaaW.PrintLast Go.Proofs.YtcmllllbmgcnlaaW.PrintMore
set_option linter.unusedVariables false
set_option linter.unusedSimpArgs false
attribute [local go_sem] Oper.semAt_some

theorem cloneIZ_calls (W : World) (A : Option Addr) (c : Nat) (t : Tp) (h : Sl W A c t) (hn : t.length * 8 ≤ 140737488351232) :
    Calls Try.prog 47 #[.slice A t.length c] W fun e w' => ∃ A' c', e = .returned (.slice A' t.length c') ∧ t.length ≤ c' ∧ Kd.F (Kd.int .i64) w' (fun k => W.heap.size ≤ k) A' t.length t ∧ Below W.heap.size W w' := by
  obtain ⟨us, hE, hl, hA, hc⟩ := rows_out rfl (Kd.C_F (Kd.heap_int .i64) h.C)
  refine (clI_calls W A t.length c us hl hA hc (els_one hE) (by omega) (by unfold maxLen; omega)).mono ?_
  rintro e w' ⟨v, rfl, ho, hb⟩
  obtain ⟨A', c', rfl, hle, hF⟩ := rows_in (d := Kd.int .i64) (ok := fun _ => False) rfl ho (hE.imp fun x u hx => fun W' _ => (show (Kd.int .i64).K W x [u] from Kd.FK_now hx)) rfl
  exact ⟨A', c', rfl, hle, Kd.F_mono hF (fun k hk => hk.elim False.elim (own_ge ho k)), hb⟩

set_option maxHeartbeats 2000000 in
set_option maxRecDepth 100000 in
theorem rangecZ_calls (W : World) (p : Option Addr) (k : Int) (At : Option Addr) (ct : Nat) (t : Tp) (st : Sl W At ct t) (hn : t.length * 8 ≤ 140737488351232) :
    Calls Try.prog 29 #[.pointer p, .int .i64 k, .slice At t.length ct] W (RangeC W (.pointer p) k t) := by
  have HST := Aside0.mk st
  have HN := Aside0.mk hn
  clear st hn
  have hb2 : Below W.heap.size W ((W.alloc (.cells #[.pointer p] 24)).alloc (.cells #[.int .i64 k] 3)) := below_alloc (below_alloc (Below.refl _ _) _) _
  have HB2 := Aside0.mk hb2
  have HS2 := Aside0.mk (Sl.below HST.out hb2)
  clear hb2
  go_enter Try.func29, Try.ntmps29
  go_wp2_with (go_at_call 47; ((with_reducible refine (cloneIZ_calls _ At ct t HS2.out HN.out).mono ?_)); rintro e w2 ⟨A2, c2, rfl, hc2, hF2, hb2⟩)
  go_ret
  have hlt : ((W.alloc (.cells #[.pointer p] 24)).alloc (.cells #[.int .i64 k] 3)).heap.size = W.heap.size + 2 := by simp
  have hbw : Below W.heap.size W w2 := below_then HB2.out HB2.out.size hb2
  have a3 := below_alloc (Below.refl w2.heap.size w2) (.cells #[.slice A2 t.length c2] 22)
  refine ⟨W.heap.size, w2.heap.size, W.heap.size + 1, A2, c2, rfl, ?_, ?_, ?_, hc2, Kd.F_mono (Kd.F_below hF2 a3) (fun j hj => by omega), below_then hbw hbw.size a3⟩
  · exact (cell_of_heap (blk a3 (blk hb2 (blk (below_alloc (Below.refl _ _) _) (heap_alloc_new W (.cells #[.pointer p] 24))))) 0).trans rfl
  · have := heap_alloc_new (W.alloc (.cells #[.pointer p] 24)) (.cells #[.int .i64 k] 3)
    rw [World.size_alloc] at this
    exact (cell_of_heap (blk a3 (blk hb2 this)) 0).trans rfl
  · exact (cell_of_heap (heap_alloc_new w2 (.cells #[.slice A2 t.length c2] 22)) 0).trans rfl

set_option maxHeartbeats 2000000 in
set_option maxRecDepth 100000 in
theorem fromcZ_calls (W : World) (p : Option Addr) (At : Option Addr) (ct : Nat) (t : Tp) (st : Sl W At ct t) (hn : t.length * 8 ≤ 140737488351232) :
    Calls Try.prog 30 #[.pointer p, .slice At t.length ct] W (FromC W (.pointer p) t) := by
  have HST := Aside0.mk st
  have HN := Aside0.mk hn
  clear st hn
  have hb2 : Below W.heap.size W (W.alloc (.cells #[.pointer p] 24)) := below_alloc (Below.refl _ _) _
  have HB2 := Aside0.mk hb2
  have HS2 := Aside0.mk (Sl.below HST.out hb2)
  clear hb2
  go_enter Try.func30, Try.ntmps30
  go_wp2_with (go_at_call 47; ((with_reducible refine (cloneIZ_calls _ At ct t HS2.out HN.out).mono ?_)); rintro e w2 ⟨A2, c2, rfl, hc2, hF2, hb2⟩)
  go_ret
  have hlt : (W.alloc (.cells #[.pointer p] 24)).heap.size = W.heap.size + 1 := by simp
  have hbw : Below W.heap.size W w2 := below_then HB2.out HB2.out.size hb2
  have a3 := below_alloc (Below.refl w2.heap.size w2) (.cells #[.slice A2 t.length c2] 22)
  refine ⟨W.heap.size, w2.heap.size, A2, c2, rfl, ?_, ?_, hc2, Kd.F_mono (Kd.F_below hF2 a3) (fun j hj => by omega), below_then hbw hbw.size a3⟩
  · exact (cell_of_heap (blk a3 (blk hb2 (heap_alloc_new W (.cells #[.pointer p] 24)))) 0).trans rfl
  · exact (cell_of_heap (heap_alloc_new w2 (.cells #[.slice A2 t.length c2] 22)) 0).trans rfl

/-- No set: nil, or a zero. -/
def NoSet (W : World) (p : Option Addr) : Prop := p = none ∨ ∃ b, p = some ⟨b, 0, none⟩ ∧ W.cell? ⟨b, 0, none⟩ = some (.bool false)
theorem NoSet.since {W W1 : World} {p : Option Addr} (h : NoSet W p) (hs : Since W W1) : NoSet W1 p := h.imp id fun ⟨b, e, hc⟩ => ⟨b, e, pw_cell_below hs.b hc⟩
set_option maxHeartbeats 1000000 in
set_option maxRecDepth 100000 in
theorem nok_calls (W : World) (p : Option Addr) (h : NoSet W p) : Calls Try.prog 48 #[.pointer p] W fun e w' => e = .returned (.bool false) ∧ W = w' := by
  rcases h with rfl | ⟨b, rfl, hc⟩
  · go_enter Try.func48, Try.ntmps48
    go_wp2
    go_ret
    exact ⟨rfl, rfl⟩
  · go_enter Try.func48, Try.ntmps48
    go_wp2
    go_ret
    exact ⟨rfl, rfl⟩
set_option maxHeartbeats 1000000 in
set_option maxRecDepth 100000 in
theorem nfits_calls (W : World) (p : Option Addr) (h : NoSet W p) (At : Option Addr) (n ct : Nat) : Calls Try.prog 49 #[.pointer p, .slice At n ct] W fun e w' => e = .returned (.bool false) ∧ W = w' := by
  go_enter Try.func49, Try.ntmps49
  go_wp2_with (go_at_call 48; refine (nok_calls _ p h).mono ?_; rintro e w' ⟨rfl, rfl⟩)
  go_ret
  exact ⟨rfl, rfl⟩
set_option maxHeartbeats 1000000 in
set_option maxRecDepth 100000 in
theorem nhas_calls (W : World) (p : Option Addr) (h : NoSet W p) (At : Option Addr) (n ct : Nat) : Calls Try.prog 23 #[.pointer p, .slice At n ct] W fun e w' => e = .returned (.bool false) ∧ W = w' := by
  go_enter Try.func23, Try.ntmps23
  go_wp2_with (go_at_call 49; refine (nfits_calls _ p h At n ct).mono ?_; rintro e w' ⟨rfl, rfl⟩)
  go_ret
  exact ⟨rfl, rfl⟩
set_option maxHeartbeats 1000000 in
set_option maxRecDepth 100000 in
theorem nlen_calls (W : World) (p : Option Addr) (h : NoSet W p) : Calls Try.prog 19 #[.pointer p] W fun e w' => e = .returned (.int .i64 0) ∧ W = w' := by
  go_enter Try.func19, Try.ntmps19
  go_wp2_with (go_at_call 48; refine (nok_calls _ p h).mono ?_; rintro e w' ⟨rfl, rfl⟩)
  go_ret
  exact ⟨rfl, rfl⟩
set_option maxHeartbeats 1000000 in
set_option maxRecDepth 100000 in
theorem norder_calls (W : World) (p : Option Addr) (h : NoSet W p) : Calls Try.prog 28 #[.pointer p] W fun e w' => e = .returned (.slice none 0 0) ∧ W = w' := by
  go_enter Try.func28, Try.ntmps28
  go_wp2_with (go_at_call 48; refine (nok_calls _ p h).mono ?_; rintro e w' ⟨rfl, rfl⟩)
  go_ret
  exact ⟨rfl, rfl⟩
set_option maxHeartbeats 1000000 in
set_option maxRecDepth 100000 in
theorem nclear_calls (W : World) (p : Option Addr) (h : NoSet W p) : Calls Try.prog 36 #[.pointer p] W fun e w' => e = .returned (.tuple #[]) ∧ W = w' := by
  go_enter Try.func36, Try.ntmps36
  go_wp2_with (go_at_call 48; refine (nok_calls _ p h).mono ?_; rintro e w' ⟨rfl, rfl⟩)
  go_end0
  exact ⟨rfl, rfl⟩
set_option maxHeartbeats 1000000 in
set_option maxRecDepth 100000 in
theorem nins_calls (W : World) (p : Option Addr) (h : NoSet W p) (At : Option Addr) (n ct : Nat) : Calls Try.prog 18 #[.pointer p, .slice At n ct] W fun e w' => e = .returned (.tuple #[.bool false, .int .i64 5]) ∧ W = w' := by
  go_enter Try.func18, Try.ntmps18
  go_wp2_with (go_at_call 48; refine (nok_calls _ p h).mono ?_; rintro e w' ⟨rfl, rfl⟩)
  go_ret2
  exact ⟨rfl, rfl⟩
set_option maxHeartbeats 1000000 in
set_option maxRecDepth 100000 in
theorem nswap1_calls (W : World) (p : Option Addr) (h : NoSet W p) (q : Option Addr) : Calls Try.prog 37 #[.pointer p, .pointer q] W fun e w' => e = .returned (.int .i64 5) ∧ W = w' := by
  go_enter Try.func37, Try.ntmps37
  go_wp2_with (go_at_call 48; refine (nok_calls _ p h).mono ?_; rintro e w' ⟨rfl, rfl⟩)
  go_ret
  exact ⟨rfl, rfl⟩
set_option maxHeartbeats 1000000 in
set_option maxRecDepth 100000 in
theorem nswap2_calls (W : World) (p : Option Addr) (h : NoSet W p) (b : Nat) (hb : W.cell? ⟨b, 0, none⟩ = some (.bool true)) : Calls Try.prog 37 #[.pointer (some ⟨b, 0, none⟩), .pointer p] W fun e w' => e = .returned (.int .i64 5) ∧ W = w' := by
  have h1 := ok_calls W b hb
  have h2 := nok_calls W p h
  clear hb h
  go_enter Try.func37, Try.ntmps37
  go_wp2_with (first
    | (go_at_call 48; refine h1.mono ?_; clear h1; rintro e w' ⟨rfl, rfl⟩)
    | (go_at_call 48; refine h2.mono ?_; clear h2; rintro e w' ⟨rfl, rfl⟩))
  go_ret
  exact ⟨rfl, rfl⟩
set_option maxHeartbeats 2000000 in
set_option maxRecDepth 100000 in
theorem nmerge1_calls (W : World) (p : Option Addr) (h : NoSet W p) (q : Option Addr) : Calls Try.prog 35 #[.pointer p, .pointer q] W fun e w' => e = .returned (.tuple #[.int .i64 0, .int .i64 5]) ∧ Below W.heap.size W w' := by
  have hk := nok_calls _ p (h.since ((((Since.refl W).alloc (.cells #[.pointer p] 24)).alloc (.cells #[.int .i64 0] 3)).alloc (.cells #[.int .i64 0] 25)))
  clear h
  go_enter Try.func35, Try.ntmps35
  go_wp2_with (go_at_call 48; refine hk.mono ?_; clear hk; rintro e w' ⟨rfl, rfl⟩)
  refine bodyPost_ret (v := .tuple #[.int .i64 0, .int .i64 5]) (by simp [results, Try.results35, go_sem]) rfl ⟨rfl, ?_⟩
  exact ((((Since.refl W).alloc _).alloc _).alloc _).b
set_option maxHeartbeats 2000000 in
set_option maxRecDepth 100000 in
theorem nmerge2_calls (W : World) (p : Option Addr) (h : NoSet W p) (b : Nat) (hb : W.cell? ⟨b, 0, none⟩ = some (.bool true)) : Calls Try.prog 35 #[.pointer (some ⟨b, 0, none⟩), .pointer p] W fun e w' => e = .returned (.tuple #[.int .i64 0, .int .i64 5]) ∧ Below W.heap.size W w' := by
  have hs := ((((Since.refl W).alloc (.cells #[.pointer (some ⟨b, 0, none⟩)] 24)).alloc (.cells #[.int .i64 0] 3)).alloc (.cells #[.int .i64 0] 25))
  have h2 := nok_calls _ p (h.since hs)
  have h1 := ok_calls _ b (pw_cell_below hs.b hb)
  clear h hb hs
  go_enter Try.func35, Try.ntmps35
  go_wp2_with (first
    | (go_at_call 48; refine h1.mono ?_; clear h1; rintro e w' ⟨rfl, rfl⟩)
    | (go_at_call 48; refine h2.mono ?_; clear h2; rintro e w' ⟨rfl, rfl⟩))
  refine bodyPost_ret (v := .tuple #[.int .i64 0, .int .i64 5]) (by simp [results, Try.results35, go_sem]) rfl ⟨rfl, ?_⟩
  exact ((((Since.refl W).alloc _).alloc _).alloc _).b

/-! ### what is gone over: nothing -/
set_option maxHeartbeats 1000000 in
set_option maxRecDepth 100000 in
theorem nall1_calls (W : World) (y : Value) (Bs : Nat) (p : Option Addr) (hB : W.cell? ⟨Bs, 0, none⟩ = some (.pointer p)) (h : NoSet W p) : Calls Try.prog 52 #[y, .pointer (some ⟨Bs, 0, none⟩)] W fun e w' => e = .returned (.tuple #[]) ∧ W = w' := by
  go_enter Try.func52, Try.ntmps52
  go_wp2_with (go_at_call 48; refine (nok_calls _ p h).mono ?_; rintro e w' ⟨rfl, rfl⟩)
  go_end0
  exact ⟨rfl, rfl⟩
set_option maxHeartbeats 1000000 in
set_option maxRecDepth 100000 in
theorem nfrom1_calls (W : World) (y : Value) (Bs Bk : Nat) (p : Option Addr) (hB : W.cell? ⟨Bs, 0, none⟩ = some (.pointer p)) (h : NoSet W p) (Ak : Option Addr) (n ck : Nat) (hk : W.cell? ⟨Bk, 0, none⟩ = some (.slice Ak n ck)) : Calls Try.prog 63 #[y, .pointer (some ⟨Bs, 0, none⟩), .pointer (some ⟨Bk, 0, none⟩)] W fun e w' => e = .returned (.tuple #[]) ∧ Since W w' := by
  go_enter Try.func63, Try.ntmps63
  go_wp2_with (go_at_call 49; refine (nfits_calls _ p h Ak n ck).mono ?_; rintro e w' ⟨rfl, rfl⟩)
  go_end0
  exact ⟨rfl, Since.refl _⟩
set_option maxHeartbeats 1000000 in
set_option maxRecDepth 100000 in
theorem nrange1_calls (W : World) (l : Nat) (Bs Bk Bi : Nat) (p : Option Addr) (hB : W.cell? ⟨Bs, 0, none⟩ = some (.pointer p)) (h : NoSet W p) (Ak : Option Addr) (n ck : Nat) (hk : W.cell? ⟨Bk, 0, none⟩ = some (.slice Ak n ck)) : Calls Try.prog 59 #[.func (.yield l) #[] #[], .pointer (some ⟨Bs, 0, none⟩), .pointer (some ⟨Bk, 0, none⟩), .pointer (some ⟨Bi, 0, none⟩)] W fun e w' => e = .returned (.tuple #[]) ∧ Since W w' := by
  have hs := (Since.refl W).alloc (.cells #[.func (.yield l) #[] #[]] 74)
  have hB' := pw_cell_below hs.b hB
  have hk' := pw_cell_below hs.b hk
  have h' := h.since hs
  clear hB hk h
  go_enter Try.func59, Try.ntmps59
  go_wp2_with (go_at_call 49; refine (nfits_calls _ p h' Ak n ck).mono ?_; rintro e w' ⟨rfl, rfl⟩)
  exact bodyPost_ret (v := .tuple #[]) (by simp [results, Try.results59, go_sem]) rfl ⟨rfl, hs⟩

theorem nall_seq (w : World) (Bs : Nat) (p : Option Addr) (hB : w.cell? ⟨Bs, 0, none⟩ = some (.pointer p)) (h : NoSet w p) (fp : Nat → Prop) : SeqR Fence.wide Try.prog 52 #[.pointer (some ⟨Bs, 0, none⟩)] fp [] w := by
  intro l J Jx W hW hJ hJx hR h0 n
  refine callsIn_wide.2 ((nall1_calls W _ Bs p (pw_cell_below hW hB) (h.since ⟨hW⟩)).mono ?_)
  rintro e w' ⟨rfl, rfl⟩
  exact ⟨⟨_, rfl⟩, _, Nat.le_refl _, .inl (h0 W (Below.refl _ _))⟩
theorem nfrom_seq (w : World) (Bs Bk : Nat) (p : Option Addr) (hB : w.cell? ⟨Bs, 0, none⟩ = some (.pointer p)) (h : NoSet w p) (Ak : Option Addr) (m ck : Nat) (hk : w.cell? ⟨Bk, 0, none⟩ = some (.slice Ak m ck)) (fp : Nat → Prop) : SeqR Fence.wide Try.prog 63 #[.pointer (some ⟨Bs, 0, none⟩), .pointer (some ⟨Bk, 0, none⟩)] fp [] w := by
  intro l J Jx W hW hJ hJx hR h0 n
  refine callsIn_wide.2 ((nfrom1_calls W _ Bs Bk p (pw_cell_below hW hB) (h.since ⟨hW⟩) Ak m ck (pw_cell_below hW hk)).mono ?_)
  rintro e w' ⟨rfl, hs⟩
  exact ⟨⟨_, rfl⟩, _, hs.b.size, .inl (h0 w' hs.b)⟩
theorem nrange_seq (w : World) (Bs Bk Bi : Nat) (p : Option Addr) (hB : w.cell? ⟨Bs, 0, none⟩ = some (.pointer p)) (h : NoSet w p) (Ak : Option Addr) (m ck : Nat) (hk : w.cell? ⟨Bk, 0, none⟩ = some (.slice Ak m ck)) (fp : Nat → Prop) : SeqR Fence.wide Try.prog 59 #[.pointer (some ⟨Bs, 0, none⟩), .pointer (some ⟨Bk, 0, none⟩), .pointer (some ⟨Bi, 0, none⟩)] fp [] w := by
  intro l J Jx W hW hJ hJx hR h0 n
  refine callsIn_wide.2 ((nrange1_calls W l Bs Bk Bi p (pw_cell_below hW hB) (h.since ⟨hW⟩) Ak m ck (pw_cell_below hW hk)).mono ?_)
  rintro e w' ⟨rfl, hs⟩
  exact ⟨⟨_, rfl⟩, _, hs.b.size, .inl (h0 w' hs.b)⟩
theorem nlistA_calls (W : World) (Bs : Nat) (p : Option Addr) (hB : W.cell? ⟨Bs, 0, none⟩ = some (.pointer p)) (h : NoSet W p) :
    Calls Try.prog 21 #[.func (.func 52) #[] #[.pointer (some ⟨Bs, 0, none⟩)]] W (ListR W []) := by
  have hb : Since W (W.alloc (.cells #[.slice none 0 0] 23)) := (Since.refl W).alloc _
  exact callsIn_wide (n := 3) |>.1 (list_in Fence.wide rfl (fun _ => trivial) rfl 3 W 52 _ listA_enters (fun k => False) (fun k hk => hk.elim) [] (by simp) (nall_seq _ Bs p (pw_cell_below hb.b hB) (h.since hb) _))
theorem nlistF_calls (W : World) (Bs Bk : Nat) (p : Option Addr) (hB : W.cell? ⟨Bs, 0, none⟩ = some (.pointer p)) (h : NoSet W p) (Ak : Option Addr) (m ck : Nat) (hk : W.cell? ⟨Bk, 0, none⟩ = some (.slice Ak m ck)) :
    Calls Try.prog 21 #[.func (.func 63) #[] #[.pointer (some ⟨Bs, 0, none⟩), .pointer (some ⟨Bk, 0, none⟩)]] W (ListR W []) := by
  have hb : Since W (W.alloc (.cells #[.slice none 0 0] 23)) := (Since.refl W).alloc _
  exact callsIn_wide (n := 3) |>.1 (list_in Fence.wide rfl (fun _ => trivial) rfl 3 W 63 _ listF_enters (fun k => False) (fun k hk => hk.elim) [] (by simp) (nfrom_seq _ Bs Bk p (pw_cell_below hb.b hB) (h.since hb) Ak m ck (pw_cell_below hb.b hk) _))
theorem nlistR_calls (W : World) (Bs Bk Bi : Nat) (p : Option Addr) (hB : W.cell? ⟨Bs, 0, none⟩ = some (.pointer p)) (h : NoSet W p) (Ak : Option Addr) (m ck : Nat) (hk : W.cell? ⟨Bk, 0, none⟩ = some (.slice Ak m ck)) :
    Calls Try.prog 21 #[.func (.func 59) #[] #[.pointer (some ⟨Bs, 0, none⟩), .pointer (some ⟨Bk, 0, none⟩), .pointer (some ⟨Bi, 0, none⟩)]] W (ListR W []) := by
  have hb : Since W (W.alloc (.cells #[.slice none 0 0] 23)) := (Since.refl W).alloc _
  exact callsIn_wide (n := 3) |>.1 (list_in Fence.wide rfl (fun _ => trivial) rfl 3 W 59 _ listR_enters (fun k => False) (fun k hk => hk.elim) [] (by simp) (nrange_seq _ Bs Bk Bi p (pw_cell_below hb.b hB) (h.since hb) Ak m ck (pw_cell_below hb.b hk) _))

end Go.Proofs.Ytcmllllbmgcnlaa.Tup
