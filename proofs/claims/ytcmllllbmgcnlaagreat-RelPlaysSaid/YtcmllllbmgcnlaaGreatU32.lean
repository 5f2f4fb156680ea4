/- Own texts, joined and cut to what the claim stands on: RlAlike, RlFilt, RlFindB, RlDup, RlOwnI. -/
import Derived.Test.YtcmllllbmgcnlaaGreatU30
import Derived.Test.YtcmllllbmgcnlaaGreatU16
import Derived.Test.YtcmllllbmgcnlaaGreatU29
import Derived.Test.YtcmllllbmgcnlaaGreatU31
import Derived.Test.YtcmllllbmgcnlaaGreatU9
section
namespace Go.Proofs.YtcmllllbmgcnlaaGreat.Rl
open Go.RowKit Go.Lib Go.Shelf Go.Proofs.YtcmllllbmgcnlaaGreat.G Go.Proofs.YtcmllllbmgcnlaaGreat.Tup Go.Proofs.YtcmllllbmgcnlaaGreatW.PrintWords Go.Proofs.YtcmllllbmgcnlaaGreatW.PrintLast Go.Proofs.YtcmllllbmgcnlaaGreatW.PrintMore
set_option linter.unusedVariables false
set_option linter.unusedSimpArgs false
theorem drawn_drew {W w : World} : Drawn0 W w → Drawn0 W w.drew := fun ⟨m, h⟩ => ⟨m + 1, by rw [h]; first | rfl | exact World.drewN_drewN W m 1⟩
theorem and_bit (x : Int) (h : 0 ≤ x) : bits BinOp.and IntKind.i64 x 1 = ((x.toNat % 2 : Nat) : Int) := by
 have e : bits BinOp.and IntKind.i64 x 1 = (((BitVec.ofInt 64 x).toNat % 2 : Nat) : Int) := by
  show IntKind.i64.wrap ((BitVec.ofInt 64 x &&& BitVec.ofInt 64 1).toNat : Int) = _
  rw [BitVec.toNat_and, show (BitVec.ofInt 64 1).toNat = 1 from rfl, Nat.and_one_is_mod, IntKind.wrap_i64]
  omega
 rw [e, BitVec.toNat_ofInt]
 omega
theorem shr_bit (cols : Int) (h : 0 ≤ cols) (i : Nat) : (bits BinOp.and IntKind.i64 (cols / 2 ^ i) 1 == 1) = cols.toNat.testBit i := by
 obtain ⟨m, rfl⟩ : ∃ m : Nat, cols = (m : Int) := ⟨cols.toNat, by omega⟩
 have e : ((m : Int) / 2 ^ i) = ((m / 2 ^ i : Nat) : Int) := by
  rw [Int.natCast_ediv]; simp
 rw [e, and_bit ((m / 2 ^ i : Nat) : Int) (Int.natCast_nonneg _), Int.toNat_natCast, Int.toNat_natCast, Nat.testBit_eq_decide_div_mod_eq]
 rw [Bool.eq_iff_iff]
 simp
 omega
set_option maxHeartbeats 4000000 in
set_option maxRecDepth 100000 in
theorem alike_calls (W : World) (cols : Int) (hc0 : 0 ≤ cols) (A B : Option Addr) (ca cb : Nat) (x t : Tp) (hx : Sl W A ca x) (ht : Sl W B cb t) (n : Nat) (hn : n ≤ 8) (hxl : x.length = n) (htl : t.length = n) :
  Calls Tryz.prog 52 #[.int .i64 cols, .slice A n ca, .slice B n cb] W fun e w' => e = .returned (.bool (agreeB n cols t x)) ∧ Drawn0 W w' := by
 have HX := Aside0.mk (And.intro hx hxl)
 have HT := Aside0.mk (And.intro ht htl)
 clear hx ht hxl htl
 go_enter Tryz.func52, Tryz.ntmps52
 go_wp2
 go_loopg [10] n (fun gk v10 wr => ∃ i : Nat, v10 = .int .i64 (i : Int) ∧ Aside0 (i + gk = n) ∧ Aside0 (∀ c < i, (!cols.toNat.testBit c || decide (rd x (c : Int) = rd t (c : Int))) = true) ∧ Aside0 (Drawn0 W wr))
 case atStart => exact ⟨0, rfl, ⟨by omega⟩, ⟨by omega⟩, ⟨⟨0, rfl⟩⟩⟩
 case round =>
  obtain ⟨i, rfl, HI, HA, HD⟩ := hrel
  by_cases hi : i < n
  ·have hii : (i : Int) < (n : Int) := by omega
   have hid : decide (i < n) = true := decide_eq_true hi
   obtain ⟨adx, rfl, cx⟩ := sl_at (Sl.below HX.out.1 (Drawn0.below HD.out)) (i : Int) (by omega) (by have := HX.out.2; omega)
   obtain ⟨adt, rfl, ct⟩ := sl_at (Sl.below HT.out.1 (Drawn0.below HD.out)) (i : Int) (by omega) (by have := HT.out.2; omega)
   rw [Int.toNat_natCast] at cx ct
   obtain ⟨a, ha⟩ : ∃ a, a = rd x (i : Int) := ⟨_, rfl⟩
   obtain ⟨b, hb⟩ : ∃ b, b = rd t (i : Int) := ⟨_, rfl⟩
   rw [← ha] at cx
   rw [← hb] at ct
   have hs := shr_bit cols hc0 i
   have hwd : (0 : Int) ≤ (i : Int) ∧ (i : Int) < (n : Int) := by omega
   have HAB := Aside0.mk (And.intro ha hb)
   clear ha hb
   have hmore : ∀ r, (!cols.toNat.testBit i || decide (a = b)) = r → (if r = true then ∀ c < i + 1, (!cols.toNat.testBit c || decide (rd x (c : Int) = rd t (c : Int))) = true else agreeB n cols t x = false) := by
    rintro r rfl
    split
    ·rename_i h
     intro c hc
     by_cases e : c = i
     ·rw [e, ← HAB.out.1, ← HAB.out.2]; exact h
     ·exact HA.out c (by omega)
    ·rename_i h
     refine Bool.eq_false_iff.2 fun h2 => h ?_
     have := List.all_eq_true.1 h2 i (List.mem_range.2 hi)
     rw [← HAB.out.1, ← HAB.out.2] at this
     exact this
   have HM := Aside0.mk hmore
   clear hmore
   cases hbt : cols.toNat.testBit i
   ·rw [hbt] at hs HM
    go_wp2_with fail
    go_region
    go_wp2_with fail
    obtain ⟨k2, hk2⟩ : ∃ k2, k2 = gk - 1 := ⟨_, rfl⟩
    go_roundg k2
    case measure => have := HI.out; omega
    case rel => exact ⟨i + 1, by go_num, ⟨by have := HI.out; omega⟩, ⟨HM.out true (by simp)⟩, ⟨drawn_drew HD.out⟩⟩
   ·rw [hbt] at hs HM
    by_cases hab : a = b
    ·have hne : (a != b) = false := by simp [hab]
     go_wp2_with fail
     go_region
     go_wp2_with fail
     obtain ⟨k2, hk2⟩ : ∃ k2, k2 = gk - 1 := ⟨_, rfl⟩
     go_roundg k2
     case measure => have := HI.out; omega
     case rel => exact ⟨i + 1, by go_num, ⟨by have := HI.out; omega⟩, ⟨HM.out true (by simp [hab])⟩, ⟨drawn_drew HD.out⟩⟩
    ·have hne : (a != b) = true := by simpa using hab
     have HF := Aside0.mk (show agreeB n cols t x = false from HM.out false (by simp [hab]))
     go_wp2_with fail
     go_region
     go_wp2_with fail
     go_ret
     exact ⟨by rw [HF.out]; rfl, drawn_drew HD.out⟩
  ·have hii : ¬ (i : Int) < (n : Int) := by omega
   have hid : decide (i < n) = false := decide_eq_false hi
   go_wp2
   go_ret
   refine ⟨?_, HD.out⟩
   have : agreeB n cols t x = true := List.all_eq_true.2 fun c hc => HA.out c (by have := List.mem_range.1 hc; omega)
   rw [this]
   rfl
end Go.Proofs.YtcmllllbmgcnlaaGreat.Rl
end
section
namespace Go.Proofs.YtcmllllbmgcnlaaGreat.Rl
open Go.RowKit Go.Lib Go.Shelf Go.Proofs.YtcmllllbmgcnlaaGreat.G Go.Proofs.YtcmllllbmgcnlaaGreat.Tup Go.Proofs.YtcmllllbmgcnlaaGreatW.PrintWords Go.Proofs.YtcmllllbmgcnlaaGreatW.PrintLast Go.Proofs.YtcmllllbmgcnlaaGreatW.PrintMore
set_option linter.unusedVariables false
set_option linter.unusedSimpArgs false
attribute [local go_sem] Oper.semAt_some
theorem own_weak {β : Type} {B B' : Nat} {J : β → World → Prop} (h : OwnFrom B J) (hB : B ≤ B') : OwnFrom B' J := fun s A C row hs hg hr => h s A C row hs hg (fun r e => ⟨Nat.le_trans hB (hr r e).1, (hr r e).2⟩)
theorem own_below {β : Type} {B : Nat} {J : β → World → Prop} (h : OwnFrom B J) {s : β} {A C : World} (hs : J s A) (hb : Below A.heap.size A C) : J s C := h s A C none hs ⟨hb.os, hb.tape, hb.output, hb.size, fun k hk _ => hb.block k hk⟩ (fun r e => by cases e)
structure FiltI (w W : World) (l n2 : Nat) (p : Tp → Bool) (J : Nat → List Tp → World → Prop) (N : Nat) (pre : List Tp) (Wc : World) : Prop where
 j : J N (pre.filter p) Wc
 low : ∀ k, k < w.heap.size → Wc.heap[k]? = w.heap[k]?
 size : n2 ≤ Wc.heap.size
 box : Wc.heap[W.heap.size]? = some (.cells #[.func (.yield l) #[] #[]] 111 (0, 0))
theorem filtI_own {w W : World} {l n2 : Nat} {p : Tp → Bool} {J : Nat → List Tp → World → Prop} {N B : Nat} (hB : W.heap.size + 1 ≤ B) (hw : w.heap.size ≤ W.heap.size) (hJ : OwnFrom W.heap.size (J N)) : OwnFrom B (FiltI w W l n2 p J N) := by
 rintro s A C row ⟨h1, h2, h3, h4⟩ hg hr
 refine ⟨own_weak hJ (by omega) _ A C row h1 hg hr, fun k hk => ?_, Nat.le_trans h3 hg.size, ?_⟩
 ·by_cases hkA : k < A.heap.size
  ·exact (hg.block k hkA (fun e => by have := (hr k e.symm).1; omega)).trans (h2 k hk)
  ·exfalso
   have := h2 k hk
   rw [Array.getElem?_eq_none (by omega), Array.getElem?_eq_getElem (by omega)] at this
   cases this
 ·exact (hg.block _ (Array.getElem?_eq_some_iff.1 h4).1 (fun e => by have := (hr _ e.symm).1; omega)).trans h4
set_option maxRecDepth 100000 in
set_option maxHeartbeats 16000000 in
theorem filt_seq {ok : Nat → Prop} {w : World} {br wd : Nat} {os : List Tp} {R : List Row} {m : Nat} {bss : List Nat} (h : RelAt ok w br wd os R m bss) (Bs Bi Bk : Nat) (hBs : w.cell? ⟨Bs, 0, none⟩ = some (.pointer (some ⟨br, 0, none⟩))) (cols : Int) (hBi : w.cell? ⟨Bi, 0, none⟩ = some (.int .i64 cols)) (Ak : Option Addr) (ck : Nat) (t : Tp) (hBk : w.cell? ⟨Bk, 0, none⟩ = some (.slice Ak t.length ck)) (st : Sl w Ak ck t)
  (ht : t.length = wd) (hc0 : 0 ≤ cols) :
  ∃ xs : List Tp, (∀ x, x ∈ xs ↔ x ∈ keys R) ∧ xs.Nodup ∧ xs.length ≤ 1024 ∧ SeqT Fence.wide Tryz.prog 50 #[.pointer (some ⟨Bs, 0, none⟩), .pointer (some ⟨Bi, 0, none⟩), .pointer (some ⟨Bk, 0, none⟩)] (fun k => k < w.heap.size) (xs.filter (agreeB wd cols t)) w := by
 obtain ⟨Ao, co, As, cs, hp, _, _, _, hFs⟩ := h.hp
 have hpos := h.hos.pos
 have hb0 : 0 < bss.length := by rw [h.len]; exact hpos
 obtain ⟨As', c', rt, T, hS, hT⟩ := h.sets 0 hpos hb0
 obtain ⟨ad, rfl, hcell⟩ := nod_at (Kd.F_now hFs) 0 hb0
 obtain ⟨b0, hb0e⟩ : ∃ b, b = bss[0] := ⟨_, rfl⟩
 rw [← hb0e, add0] at hcell
 rw [← hb0e] at hS
 obtain ⟨o0, ho0⟩ : ∃ o, o = os[0] := ⟨_, rfl⟩
 rw [← ho0] at hS
 clear ho0
 refine ⟨T.io, hT, up_nodup hS.up, hS.le, ?_⟩
 have hwdx : ∀ x ∈ T.io, x.length = wd := fun x hx => h.hR.key ((hT x).1 hx)
 have hw8 := h.hos.w8
 obtain ⟨on, hon⟩ : ∃ on, on = os.length := ⟨_, rfl⟩
 have honp : (0 : Int) < (on : Int) := by omega
 have hon1 : 0 < on := by omega
 have hond : decide (0 < on) = true := decide_eq_true hon1
 have h3 : w.cell? ⟨br, 3, none⟩ = some (.slice (some ad) on cs) := (rec_of hp).c3.trans (by rw [hon])
 have hSb := hS.bound
 intro l J W hW hJ hR h0 n
 have hWs := hW.size
 obtain ⟨WX, hWX⟩ : ∃ WX, WX = W.alloc (.cells #[.func (.yield l) #[] #[]] 111) := ⟨_, rfl⟩
 have hs1 : Since W WX := by rw [hWX]; exact (Since.refl W).alloc _
 have hzX : WX.heap.size = W.heap.size + 1 := by rw [hWX]; simp
 have hbx : WX.heap[W.heap.size]? = some (.cells #[.func (.yield l) #[] #[]] 111 (0, 0)) := by rw [hWX]; exact heap_alloc_new _ _
 have hwX : Since w WX := (Since.mk hW).trans hs1
 have c1 := pw_cell_below hwX.b hBs
 have c2 := pw_cell_below hwX.b h3
 have c3 := pw_cell_below hwX.b hcell
 have HS := Aside0.mk hSb
 have HJ := Aside0.mk (And.intro hJ (And.intro hR h0))
 have HX := Aside0.mk (And.intro hwdx (And.intro hw8 (And.intro hwX hbx)))
 have HK := Aside0.mk (And.intro hBi (And.intro hBk (And.intro st (And.intro ht hc0))))
 subst hWX
 clear h hp hFs hS hT hJ hR h0 hb0 hb0e hpos hon hcell h3 hwdx hw8 hbx hwX hs1 hSb hBs hBi hBk st ht hc0
 refine callsIn_of_wp_marks Tryz.func50 rfl trivial ?_ rfl
 simp only [Tryz.ntmps50, List.size_toArray, List.length_cons, List.length_nil, Nat.reduceAdd, Nat.reduceSub, Array.replicate_succ, Array.replicate_zero, List.push_toArray, List.append_toArray, List.nil_append, List.cons_append]
 have hdd : ∀ k : Nat, (Fence.wide.depth.isSome = true → 1 ≤ k) := fun k h => by cases h
 gi_wp2_with (first
  | ((try refine ⟨trivial, ?_⟩); (try refine ⟨hdd _, ?_⟩); gi_at_call 51; refine (callsIn_wide.2 (all_calls _ _ ⟨_, rfl⟩)).mono ?_; rintro e w5 ⟨rfl, rfl⟩))
 obtain ⟨q, hq⟩ : ∃ q, q = W.heap.size + 1 := ⟨_, rfl⟩
 rw [← hq]
 generalize hW2 : (W.alloc (.cells #[.func (.yield l) #[] #[]] 111)).alloc (.cells #[.pointer (some ⟨b0, 0, none⟩)] 99) = W2
 have hs2 : Since (W.alloc (.cells #[.func (.yield l) #[] #[]] 111)) W2 := by rw [← hW2]; exact (Since.refl _).alloc _
 have hz2 : W2.heap.size = W.heap.size + 2 := by rw [← hW2]; simp
 have hcq : W2.cell? ⟨q, 0, none⟩ = some (.pointer (some ⟨b0, 0, none⟩)) := by
  rw [← hW2, hq, ← hzX]
  exact (Tup.cell_of_heap (heap_alloc_new _ _) 0).trans rfl
 have hbx2 : W2.heap[W.heap.size]? = some (.cells #[.func (.yield l) #[] #[]] 111 (0, 0)) := (hs2.b.block _ (by rw [hzX]; omega)).trans HX.out.2.2.2
 have hw2 : Since w W2 := HX.out.2.2.1.trans hs2
 have hW2s : Below W.heap.size W W2 := ((Since.refl W).alloc (.cells #[.func (.yield l) #[] #[]] 111)).b |> fun h => below_then h h.size hs2.b
 clear hW2 hq hs2 c1 c2 c3
 refine range_outerT rfl rfl (gf := 79) (lb := #[.pointer (some ⟨q, 0, none⟩)]) rfl trivial btall_enters (fp := fun k => k < w.heap.size) (fun k hk => by omega) (seqR_T (all_seq W2 q b0 (HS.out.since hw2) (fun k hk => hk.2) hcq)) rfl
  (FiltI w W l (W2.heap.size + 2) (agreeB wd cols t) J) (fun N hN => filtI_own (by omega) hWs (HJ.out.1 N (by omega)))
  (fun W' hb hsz => ⟨HJ.out.2.2 W' (below_then hW2s hW2s.size hb), fun k hk => (hb.block k (by omega)).trans (hw2.b.block k hk), hsz, (hb.block _ (by omega)).trans hbx2⟩)
  (fun x A c => { tmps := #[.func (.yield l) #[] #[], .pointer (some ⟨Bs, 0, none⟩), .pointer (some ⟨Bi, 0, none⟩), .pointer (some ⟨Bk, 0, none⟩), .pointer (some ⟨W.heap.size, 0, none⟩), .slice A x.length c, .pointer (some ⟨br, 0, none⟩), .pointer (some ⟨br, 0, none⟩), .pointer (some ⟨br, 3, none⟩), .slice (some ad) on cs, .pointer (some ad), .pointer (some ⟨b0, 0, none⟩), .func (.func 79) #[] #[.pointer (some ⟨q, 0, none⟩)], .slice A x.length c, undef, undef, undef, undef, undef, undef, undef, undef, undef, undef], defers := [] }) ?assign ?body ?done
 case assign =>
  intro l x A c W K hK
  gi_wp2
  exact hK
 case body =>
  rintro N l2 pre x A c W0 W1 hN hl2 hrec hdef hI0 hpre hH hI1
  have hxm : x ∈ T.io := hpre.subset (by simp)
  have hxl := HX.out.1 x hxm
  obtain ⟨hBi, hBk, st, ht, hc0⟩ := HK.out
  have hWw : w.heap.size ≤ W1.heap.size := by have := hI1.size; omega
  have kp : KpF (fun k => k < w.heap.size) w W1 := ⟨hWw, fun k hk _ => hI1.low k hk⟩
  have ci := kp.cell (World.block_lt_of_cell? w ⟨Bi, 0, none⟩ hBi) hBi
  have ck' : W1.cell? ⟨Bk, 0, none⟩ = some (.slice Ak x.length ck) := by rw [hxl, ← ht]; exact kp.cell (World.block_lt_of_cell? w ⟨Bk, 0, none⟩ hBk) hBk
  have cb : W1.cell? ⟨W.heap.size, 0, none⟩ = some (.func (.yield l) #[] #[]) := (Tup.cell_of_heap hI1.box 0).trans rfl
  have st1 : Sl W1 Ak ck t := ⟨Kd.F_now (Kd.F_step (Kd.C_F (Kd.heap_int .i64) st.C) fun k hk hlt => hI1.low k hlt), st.le⟩
  have hAl := Aside0.mk (alike_calls W1 cols hc0 A Ak c ck x t (Handed1.sl hH) st1 x.length (by rw [hxl]; exact HX.out.2.1) rfl (by rw [ht, hxl]))
  rw [show agreeB x.length cols t x = agreeB wd cols t x from by rw [hxl]] at hAl
  have HH := Aside0.mk (And.intro hH (And.intro hI0 (And.intro hI1 hpre)))
  have HN := Aside0.mk hN
  clear hBi hBk st ht hc0 hWw kp st1 hH hI0 hI1 hpre hrec hdef hxm hxl hN
  cases hag : agreeB wd cols t x
  ·rw [hag] at hAl
   have HQ := Aside0.mk (fun (m : Nat) => show FiltI w W l (W2.heap.size + 2) (agreeB wd cols t) J N (pre ++ [x]) (W1.drewN m) from by
    have h1 := HH.out.2.2.1
    have hb := pw_below_drewN (Below.refl W1.heap.size W1) m
    exact ⟨by rw [List.filter_append, show [x].filter (agreeB wd cols t) = [] from by simp [hag], List.append_nil]; exact own_below (HJ.out.1 N (by have := HN.out; omega)) h1.j hb, fun k hk => (hb.block k (by have := h1.size; omega)).trans (h1.low k hk), Nat.le_trans h1.size hb.size, (hb.block _ (Array.getElem?_eq_some_iff.1 h1.box).1).trans h1.box⟩)
   gi_wp2_with (first
    | ((try refine ⟨trivial, ?_⟩); (try refine ⟨hdd _, ?_⟩); gi_at_call 52; refine (CallsIn.inRound _ (callsIn_wide.2 hAl.out)).mono ?_; rintro e w2 ⟨rfl, ⟨m, rfl⟩⟩))
   refine ⟨fun f h => (by cases h), ?_⟩
   gi_wp2
   exact ⟨rfl, KpF.below (pw_below_drewN (Below.refl W1.heap.size W1) _), HQ.out _⟩
  ·rw [hag] at hAl
   have HY := Aside0.mk (fun (m : Nat) => show YieldAt (Fence.wide.inRound l2) (n - 1) Tryz.prog l #[.slice A x.length c] (W1.drewN m) _ from HJ.out.2.1 N (by have := HN.out; omega) (n - 1) (pre.filter (agreeB wd cols t)) x A c W0 (W1.drewN m) HH.out.2.1.j (by
     have := HH.out.2.2.2.filter (agreeB wd cols t)
     rwa [List.filter_append, show [x].filter (agreeB wd cols t) = [x] from by simp [hag]] at this) ⟨below_then HH.out.1.1 HH.out.1.1.size (pw_below_drewN (Below.refl W1.heap.size W1) m), own_move HH.out.1.2 fun k hk => (pw_below_drewN (Below.refl W1.heap.size W1) m).block k (Tup.own_lt HH.out.1.2 k hk.symm)⟩)
   have cb2 := fun m : Nat => pw_cell_below (pw_below_drewN (Below.refl W1.heap.size W1) m) cb
   gi_wp2_with (first
    | ((try refine ⟨trivial, ?_⟩); (try refine ⟨hdd _, ?_⟩); gi_at_call 52; refine (CallsIn.inRound _ (callsIn_wide.2 hAl.out)).mono ?_; rintro e w2 ⟨rfl, ⟨m, rfl⟩⟩; have cb3 := cb2 m; obtain ⟨fn, tmps, assign, body, hy, hRo⟩ := HY.out m)
    | ((try refine ⟨trivial, ?_⟩); (try refine ⟨hdd _, ?_⟩); refine hRo.mono ?_; clear hRo; rintro e w6 ⟨rfl, hJ6, hk6⟩))
   have h1 := HH.out.2.2.1
   have hb := pw_below_drewN (Below.refl W1.heap.size W1) m
   have hn2 := HN.out
   have hk7 : KpF (Priv (fun k => k < w.heap.size) W.heap.size N) W1 w6 := (KpF.below hb).trans hk6
   refine ⟨rfl, hk7.mono fun k hk => hk.elim .inl fun h => .inr ⟨by omega, h.2⟩, ⟨?_, fun k hk => ?_, Nat.le_trans h1.size hk7.size, ?_⟩⟩
   ·rw [List.filter_append, show [x].filter (agreeB wd cols t) = [x] from by simp [hag]]; exact hJ6
   ·exact (hk7.same k (.inl hk) (by have := h1.size; omega)).trans (h1.low k hk)
   ·exact (hk7.same _ (.inr ⟨Nat.le_refl _, by omega⟩) (Array.getElem?_eq_some_iff.1 h1.box).1).trans h1.box
 case done =>
  rintro N D Wc hN hD hI1 hK
  refine ⟨by simp, .inl ⟨_, _, rfl, run_takeDeferred hK, ?_⟩⟩
  exact ⟨_, results_none rfl _ _ _, ⟨_, rfl⟩, N, by omega, (HJ.out.1 N (by omega)).putObj (.deferred none) hI1.j (by omega) hK rfl⟩
end Go.Proofs.YtcmllllbmgcnlaaGreat.Rl
end
section
namespace Go.Proofs.YtcmllllbmgcnlaaGreat.Rl
open Go.RowKit Go.Lib Go.Shelf Go.Proofs.YtcmllllbmgcnlaaGreat.G Go.Proofs.YtcmllllbmgcnlaaGreat.Tup Go.Proofs.YtcmllllbmgcnlaaGreatW.PrintWords Go.Proofs.YtcmllllbmgcnlaaGreatW.PrintLast Go.Proofs.YtcmllllbmgcnlaaGreatW.PrintMore
open Go.Proofs.YtcmllllbmgcnlaaGreat.Ch (pickS pick_calls)
set_option linter.unusedVariables false
set_option linter.unusedSimpArgs false
theorem filt_enters : ∀ args w, (callFunc 50 args).run Tryz.prog w = .ok (.enter 50 args) w := enters_of Tryz.func50 (by kernel_rfl) rfl
theorem notedL_filter {wd : Nat} {R : List Row} {xs : List Tp} (hx : ∀ t, t ∈ xs ↔ t ∈ keys R) {cols : Int} {t : Tp} (ht : t.length = wd) (h0 : 0 ≤ cols) (h1 : cols < 2 ^ wd) : notedL R (xs.filter (agreeB wd cols t)) = findL wd R cols t := by
 unfold findL notedL
 rw [if_pos ⟨ht, h0, h1⟩]
 refine List.filter_congr fun x hxm => ?_
 rw [Bool.eq_iff_iff, decide_eq_true_iff, List.mem_filter]
 exact ⟨fun h => h.2, fun h => ⟨(hx x.1).2 (mem_keys hxm), h⟩⟩
set_option maxHeartbeats 16000000 in
set_option maxRecDepth 100000 in
theorem rfind_other {ok : Nat → Prop} {w : World} {br wd : Nat} {os : List Tp} {R : List Row} {m : Nat} {bss : List Nat} (h : RelAt ok w br wd os R m bss) (Bs Bk Bi : Nat) (hBs : w.cell? ⟨Bs, 0, none⟩ = some (.pointer (some ⟨br, 0, none⟩))) (cols : Int) (hBi : w.cell? ⟨Bi, 0, none⟩ = some (.int .i64 cols)) (Ak : Option Addr) (ck : Nat) (t : Tp) (hBk : w.cell? ⟨Bk, 0, none⟩ = some (.slice Ak t.length ck)) (st : Sl w Ak ck t)
  (ht : t.length = wd) (hc0 : 0 ≤ cols) (hc1 : cols < 2 ^ wd) (hsv : (pickS cols 0 os).2 = false) :
  Seq2R Fence.wide Tryz.prog 45 #[.pointer (some ⟨Bs, 0, none⟩), .pointer (some ⟨Bk, 0, none⟩), .pointer (some ⟨Bi, 0, none⟩)] (findL wd R cols t) w := by
 intro l J Jx W hW hJ hJx hR h0 n
 refine callsIn_wide.2 ?_
 show Calls Tryz.prog 45 #[.func (.yield l) #[] #[], .pointer (some ⟨Bs, 0, none⟩), .pointer (some ⟨Bk, 0, none⟩), .pointer (some ⟨Bi, 0, none⟩)] W (GaveR W.heap.size J Jx (findL wd R cols t))
 have hRW := h.below hW
 have stW := st.below hW
 have cBs := pw_cell_below hW hBs
 have cBk := pw_cell_below hW hBk
 have cBi := pw_cell_below hW hBi
 obtain ⟨Ao, co, As, cs, hp, hco, _, hFo, hFs⟩ := hRW.hp
 have hrc := rec_of hp
 have h0c := hrc.c0
 have h1c := hrc.c1
 have hw8 := hRW.hos.w8
 obtain ⟨pk, hpk⟩ : ∃ pk, pickS cols 0 os = (pk, false) := ⟨_, by rw [← hsv]⟩
 obtain ⟨on, hon⟩ : ∃ on, on = os.length := ⟨_, rfl⟩
 have h2c : W.cell? ⟨br, 2, none⟩ = some (.slice Ao on co) := hrc.c2.trans (by rw [hon])
 have HP := Aside0.mk (fun (w2 : World) (hs : Since W w2) => show Calls Tryz.prog 46 #[.slice Ao on co, .int .i64 cols] w2 (fun e w' => e = .returned (.tuple #[.int .i64 pk, .bool false]) ∧ Drawn0 w2 w') from by
  have := pick_calls Ao co os cols w2 (Kd.C_below (Kd.F_now hFo) hs.b) hco (by have := hRW.hos.n; omega)
  rw [hpk, ← hon] at this
  exact this)
 have HN := Aside0.mk (fun (w4 : World) (hs : Since W w4) => show Calls Tryz.prog 48 #[.pointer (some ⟨br, 0, none⟩), .func (.func 50) #[] #[.pointer (some ⟨Bs, 0, none⟩), .pointer (some ⟨Bi, 0, none⟩), .pointer (some ⟨Bk, 0, none⟩)], .func (.yield l) #[] #[]] w4 (GaveT W.heap.size J Jx (findL wd R cols t)) from by
  obtain ⟨xs, hx, hnd, hln, hsq⟩ := filt_seq (hRW.below hs.b) Bs Bi Bk (pw_cell_below hs.b cBs) cols (pw_cell_below hs.b cBi) Ak ck t (pw_cell_below hs.b cBk) (stW.below hs.b) ht hc0
  have hnl := notedL_filter hx ht hc0 hc1
  have hn := noted_in n (hRW.below hs.b) 50 #[.pointer (some ⟨Bs, 0, none⟩), .pointer (some ⟨Bi, 0, none⟩), .pointer (some ⟨Bk, 0, none⟩)] (fun k => k < w4.heap.size) (fun k hk => hk) (xs.filter (agreeB wd cols t)) (fun t' ht' => (hx t').1 (List.mem_filter.1 ht').1) (hnd.filter _) (Nat.le_trans (List.length_filter_le _ _) hln) hsq filt_enters l W.heap.size hs.b.size J Jx hJ hJx (by rw [hnl]; exact hR) (fun W' hb => h0 W' (hs.step hb).b)
  rw [hnl] at hn
  exact callsIn_wide.1 hn)
 have htb : ((t.length : Int) != (wd : Int)) = false := by simp [ht]
 have hcb : ¬ cols < 0 := by omega
 have hcd : decide (cols < 0) = false := decide_eq_false hcb
 have hsh : (cols / 2 ^ wd != 0) = false := by rw [Int.ediv_eq_zero_of_lt hc0 hc1]; rfl
 have HKP := Aside0.mk (fun (w' : World) (hs : Since W w') => pw_cell_below hs.b cBs)
 clear h hRW hp hFs hFo hJ hJx hR h0 hon stW st hpk hsv ht hc0 hc1 hcb
 go_enter Tryz.func45, Tryz.ntmps45
 go_wp2_with fail
 go_quiet (first | (go_at_call 38; refine (rok_calls _ br (by assumption)).mono ?_; rintro e w' ⟨rfl, rfl⟩; first | exact ⟨rfl, 0, rfl⟩ | exact ⟨rfl, _, rfl⟩))
 go_wp2_with fail
 go_quiet (first | (go_at_call 46; refine (HP.out _ (by repeat (first | exact Since.refl _ | refine Since.drewN ?_ _ | refine Since.drew ?_))).mono ?_; rintro e w' ⟨rfl, ⟨nd, rfl⟩⟩; first | exact ⟨rfl, _, World.drewN_drewN _ _ _⟩ | exact ⟨rfl, _, Eq.trans (World.drewN_drewN _ _ _) (congrArg (World.drewN _) (Nat.add_assoc _ _ _))⟩))
 go_wp2_with (first
  | (go_at_call 48; refine (HN.out _ (by repeat (first | exact Since.refl _ | refine Since.drewN ?_ _ | refine Since.drew ?_))).mono ?_; rintro e w9 ⟨rfl, hG9⟩; have HG9 := Aside0.mk hG9; clear hG9))
 refine bodyPost_ret (results_none rfl _ _ _) rfl ?_
 exact ⟨⟨_, rfl⟩, HG9.out⟩
set_option maxHeartbeats 4000000 in
set_option maxRecDepth 100000 in
theorem rfind1_early (W : World) (l : Nat) (Bs Bk Bi br wd : Nat) (hw8 : wd ≤ 8) (hBs : W.cell? ⟨Bs, 0, none⟩ = some (.pointer (some ⟨br, 0, none⟩))) (h0c : W.cell? ⟨br, 0, none⟩ = some (.bool true)) (h1c : W.cell? ⟨br, 1, none⟩ = some (.int .i64 (wd : Int))) (cols : Int) (hBi : W.cell? ⟨Bi, 0, none⟩ = some (.int .i64 cols)) (Ak : Option Addr) (n ck : Nat) (hBk : W.cell? ⟨Bk, 0, none⟩ = some (.slice Ak n ck)) (hno : ¬ (n = wd ∧ 0 ≤ cols ∧ cols < 2 ^ wd)) :
  Calls Tryz.prog 45 #[.func (.yield l) #[] #[], .pointer (some ⟨Bs, 0, none⟩), .pointer (some ⟨Bk, 0, none⟩), .pointer (some ⟨Bi, 0, none⟩)] W fun e w' => e = .returned (.tuple #[]) ∧ Since W w' := by
 by_cases h1 : n = wd
 ·have e1 : ((n : Int) != (wd : Int)) = false := by simp [h1]
  by_cases h2 : cols < 0
  ·have e2 : decide (cols < 0) = true := decide_eq_true h2
   clear h1 hno
   go_enter Tryz.func45, Tryz.ntmps45
   go_wp2_with fail
   go_quiet (first | (go_at_call 38; refine (rok_calls _ br (by assumption)).mono ?_; rintro e w' ⟨rfl, rfl⟩; first | exact ⟨rfl, 0, rfl⟩ | exact ⟨rfl, _, rfl⟩))
   go_wp2
   refine bodyPost_ret (results_none rfl _ _ _) rfl ⟨rfl, ?_⟩
   repeat (first | exact Since.refl _ | refine Since.drewN ?_ _ | refine Since.drew ?_)
  ·have e2 : decide (cols < 0) = false := decide_eq_false h2
   have e3 : (cols / 2 ^ wd != 0) = true := by
    have hp : (0 : Int) < 2 ^ wd := Int.pow_pos (by decide)
    have hle : (2 : Int) ^ wd ≤ cols := by
     by_cases hlt : cols < 2 ^ wd
     ·exact absurd ⟨h1, by omega, hlt⟩ hno
     ·omega
    have : 1 ≤ cols / 2 ^ wd := (Int.le_ediv_iff_mul_le hp).2 (by omega)
    exact bne_iff_ne.2 (by omega)
   clear h1 hno
   go_enter Tryz.func45, Tryz.ntmps45
   go_wp2_with fail
   go_quiet (first | (go_at_call 38; refine (rok_calls _ br (by assumption)).mono ?_; rintro e w' ⟨rfl, rfl⟩; first | exact ⟨rfl, 0, rfl⟩ | exact ⟨rfl, _, rfl⟩))
   go_wp2
   refine bodyPost_ret (results_none rfl _ _ _) rfl ⟨rfl, ?_⟩
   repeat (first | exact Since.refl _ | refine Since.drewN ?_ _ | refine Since.drew ?_)
 ·have e1 : ((n : Int) != (wd : Int)) = true := by simp; omega
  clear h1 hno
  go_enter Tryz.func45, Tryz.ntmps45
  go_wp2_with fail
  go_quiet (first | (go_at_call 38; refine (rok_calls _ br (by assumption)).mono ?_; rintro e w' ⟨rfl, rfl⟩; first | exact ⟨rfl, 0, rfl⟩ | exact ⟨rfl, _, rfl⟩))
  go_wp2
  refine bodyPost_ret (results_none rfl _ _ _) rfl ⟨rfl, ?_⟩
  repeat (first | exact Since.refl _ | refine Since.drewN ?_ _ | refine Since.drew ?_)
theorem rfind_early {ok : Nat → Prop} {w : World} {br wd : Nat} {os : List Tp} {R : List Row} {m : Nat} {bss : List Nat} (h : RelAt ok w br wd os R m bss) (Bs Bk Bi : Nat) (hBs : w.cell? ⟨Bs, 0, none⟩ = some (.pointer (some ⟨br, 0, none⟩))) (cols : Int) (hBi : w.cell? ⟨Bi, 0, none⟩ = some (.int .i64 cols)) (Ak : Option Addr) (ck : Nat) (t : Tp) (hBk : w.cell? ⟨Bk, 0, none⟩ = some (.slice Ak t.length ck))
  (hno : ¬ (t.length = wd ∧ 0 ≤ cols ∧ cols < 2 ^ wd)) :
  Seq2R Fence.wide Tryz.prog 45 #[.pointer (some ⟨Bs, 0, none⟩), .pointer (some ⟨Bk, 0, none⟩), .pointer (some ⟨Bi, 0, none⟩)] (findL wd R cols t) w := by
 have e : findL wd R cols t = [] := by unfold findL; rw [if_neg hno]
 rw [e]
 intro l J Jx W hW hJ hJx hR h0 n
 obtain ⟨Ao, co, As, cs, hp, _⟩ := (h.below hW).hp
 have hrc := rec_of hp
 refine callsIn_wide.2 ((rfind1_early W l Bs Bk Bi br wd h.hos.w8 (pw_cell_below hW hBs) hrc.c0 hrc.c1 cols (pw_cell_below hW hBi) Ak t.length ck (pw_cell_below hW hBk) hno).mono ?_)
 rintro e w' ⟨rfl, hs⟩
 exact ⟨⟨_, rfl⟩, _, hs.b.size, .inl (h0 w' hs.b)⟩
end Go.Proofs.YtcmllllbmgcnlaaGreat.Rl
end
section
namespace Go.Proofs.YtcmllllbmgcnlaaGreat.Rl
open Go.RowKit Go.Lib Go.Shelf Go.Proofs.YtcmllllbmgcnlaaGreat.G Go.Proofs.YtcmllllbmgcnlaaGreat.Tup Go.Proofs.YtcmllllbmgcnlaaGreatW.PrintWords Go.Proofs.YtcmllllbmgcnlaaGreatW.PrintLast Go.Proofs.YtcmllllbmgcnlaaGreatW.PrintMore
open Go.Proofs.YtcmllllbmgcnlaaGreat.Ch (rwrongS pickS pickS_some)
set_option linter.unusedVariables false
set_option linter.unusedSimpArgs false
theorem rfind_seq {ok : Nat → Prop} {w : World} {br wd : Nat} {os : List Tp} {R : List Row} {m : Nat} {bss : List Nat} (h : RelAt ok w br wd os R m bss) (Bs Bk Bi : Nat) (hBs : w.cell? ⟨Bs, 0, none⟩ = some (.pointer (some ⟨br, 0, none⟩))) (cols : Int) (hBi : w.cell? ⟨Bi, 0, none⟩ = some (.int .i64 cols)) (Ak : Option Addr) (ck : Nat) (t : Tp) (hBk : w.cell? ⟨Bk, 0, none⟩ = some (.slice Ak t.length ck)) (st : Sl w Ak ck t) :
  Seq2R Fence.wide Tryz.prog 45 #[.pointer (some ⟨Bs, 0, none⟩), .pointer (some ⟨Bk, 0, none⟩), .pointer (some ⟨Bi, 0, none⟩)] (findL wd R cols t) w := by
 by_cases hin : t.length = wd ∧ 0 ≤ cols ∧ cols < 2 ^ wd
 ·cases hs : (pickS cols 0 os).2
  ·exact rfind_other h Bs Bk Bi hBs cols hBi Ak ck t hBk st hin.1 hin.2.1 hin.2.2 hs
  ·exact rfind_served h Bs Bk Bi hBs cols hBi Ak ck t hBk st hin.1 hin.2.1 hin.2.2 hs
 ·exact rfind_early h Bs Bk Bi hBs cols hBi Ak ck t hBk hin
structure One (w : World) (b wd m : Nat) (bss : List Nat) (os : List Tp) (R : List Row) (other : Nat → Prop) : Prop where
 ex : ∃ ok, RelAt ok w b wd os R m bss ∧ ∀ k, other k → ¬ (ok k ∨ k = b ∨ k = m ∨ k ∈ bss)
theorem RelAt.bound {ok : Nat → Prop} {W : World} {br wd : Nat} {os : List Tp} {R : List Row} {m : Nat} {bss : List Nat} (h : RelAt ok W br wd os R m bss) : RelAt (fun k => ok k ∧ k < W.heap.size) W br wd os R m bss := by
 obtain ⟨Ao, co, As, cs, hp, h1, h2, h3, h4⟩ := h.hp
 exact ⟨⟨Ao, co, As, cs, hp, h1, h2, Kd.F_bound h3, Kd.F_bound h4⟩, h.hos, h.hR, h.map, h.len, fun j h1 h2 => by
  obtain ⟨A, c, rt, T, hS, hT⟩ := h.sets j h1 h2
  exact ⟨A, c, rt, T, hS.bound, hT⟩, h.nd, fun b hb => ⟨fun hk => (h.nb b hb).1 hk.1, (h.nb b hb).2⟩, ⟨fun hk => h.nr.1 hk.1, h.nr.2⟩, fun hk => h.nm hk.1⟩
end Go.Proofs.YtcmllllbmgcnlaaGreat.Rl
end
section
namespace Go.Proofs.YtcmllllbmgcnlaaGreat.Rl
open Go.RowKit Go.Lib Go.Shelf Go.Proofs.YtcmllllbmgcnlaaGreat.G Go.Proofs.YtcmllllbmgcnlaaGreat.Tup Go.Proofs.YtcmllllbmgcnlaaGreatW.PrintWords Go.Proofs.YtcmllllbmgcnlaaGreatW.PrintLast Go.Proofs.YtcmllllbmgcnlaaGreatW.PrintMore
open Go.Proofs.YtcmllllbmgcnlaaGreat.Ch (rwrongS)
set_option linter.unusedVariables false
set_option linter.unusedSimpArgs false
theorem Ref7.bound {ok : Nat → Prop} {W : World} {base b j wd : Nat} {A : Option Addr} {c : Nat} {es : List Elt} {R : List Row} (h : Ref7 ok W base b j wd A c es R) : Ref7 (fun k => ok k ∧ k < W.heap.size) W base b j wd A c es R :=
 ⟨h.c0, h.c1, h.fz, h.own, fun k hk => ⟨h.ok0 k hk, Tup.own_lt h.own k hk.symm⟩, h.el, fun e he k hk => ⟨h.okE e he k hk, Tup.own_lt (h.el e he) k hk.symm⟩, h.row, h.h8, h.hR⟩
theorem Ref7.row_step {ok : Nat → Prop} {W W1 : World} {base b j wd : Nat} {A : Option Addr} {c : Nat} {es : List Elt} {R : List Row} (h : Ref7 ok W base b j wd A c es R) (hm : ∀ k, ok k → k < W.heap.size → W1.heap[k]? = W.heap[k]?) (hb : W1.heap[b]? = W.heap[b]?) : Ref7 ok W1 base b j wd A c es R :=
 h.step hm (World.cell?_of_block hb) (World.cell?_of_block hb) (by simp only [World.frozen?, hb])
section
variable {W w w' : World} {br b wd m : Nat} {bss : List Nat} {os : List Tp} {ex : Nat → Prop} {R1 R2 : List Row}
end
end Go.Proofs.YtcmllllbmgcnlaaGreat.Rl
end
