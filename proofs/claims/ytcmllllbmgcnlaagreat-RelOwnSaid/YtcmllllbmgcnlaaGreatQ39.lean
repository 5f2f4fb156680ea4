/- Own texts, joined and cut to what the claim stands on: RlAlive, RlLaw2, RlDup, RlFindsL, RlMade. -/
import Derived.Deep.RegionHeld3
import Derived.Test.YtcmllllbmgcnlaaGreatQ38
import Derived.Test.YtcmllllbmgcnlaaGreatQ32
import Derived.Test.YtcmllllbmgcnlaaGreatQ9
import Derived.Test.YtcmllllbmgcnlaaGreatQ34
section
namespace Go.Proofs.YtcmllllbmgcnlaaGreat.Rl
open Go.RowKit Go.Lib Go.Shelf Go.Proofs.YtcmllllbmgcnlaaGreat.G Go.Proofs.YtcmllllbmgcnlaaGreat.Tup Go.Proofs.YtcmllllbmgcnlaaGreatW.PrintWords Go.Proofs.YtcmllllbmgcnlaaGreatW.PrintLast Go.Proofs.YtcmllllbmgcnlaaGreatW.PrintMore
open Go.Proofs.YtcmllllbmgcnlaaGreat.Ch (rwrongS pickS pickS_some)
set_option linter.unusedVariables false
set_option linter.unusedSimpArgs false
theorem sl_heap {W : World} {g : Nat} {cs : Array Value} {l : List Int} (h : W.heap[g]? = some (.cells cs 3 (0, 0))) (e : cs.toList = l.map (Value.int .i64)) (hn : l.length ≤ 1000000) : Kd.F (Kd.int .i64) W (fun k => k = g) (some ⟨g, 0, none⟩) l.length l := by
  have ho : W.ownsRow 0 3 1 (.slice (some ⟨g, 0, none⟩) l.length l.length) l.length (l.map (Value.int .i64)) :=
    ⟨by simp, .inr ⟨g, l.length, cs, rfl, Nat.zero_le _, h, Nat.le_refl _, by unfold maxLen; omega, by have := congrArg List.length e; simp at this; simp [this], by rw [e]; exact List.take_of_length_le (by simp)⟩⟩
  obtain ⟨A', c', e', hle, hF⟩ := rows_in (d := Kd.int .i64) (ok := fun _ => False) rfl ho (Els.of (by simp) fun i hi hu => by rw [List.getElem_map]; exact fun W' _ => rfl) rfl
  injection e' with e1 e2 e3
  subst e1
  exact Kd.F_mono hF fun k hk => hk.elim False.elim fun hk => by simpa [Value.ownBlock] using hk
theorem sl2_new (W : World) (a b : Int) : Sl (W.alloc (.cells #[.int .i64 a, .int .i64 b] 3)) (some ⟨W.heap.size, 0, none⟩) 2 [a, b] :=
  ⟨Kd.F_now (sl_heap (l := [a, b]) (heap_alloc_new W _) rfl (by simp)), Nat.le_refl _⟩
theorem sl1_new (W : World) (a : Int) : Sl (W.alloc (.cells #[.int .i64 a] 3)) (some ⟨W.heap.size, 0, none⟩) 1 [a] :=
  ⟨Kd.F_now (sl_heap (l := [a]) (heap_alloc_new W _) rfl (by simp)), Nat.le_refl _⟩
theorem sl2_kept {W w' : World} {S : Nat → Prop} (a b : Int) (hS : ¬ S W.heap.size) (h : KeptS S (W.alloc (.cells #[.int .i64 a, .int .i64 b] 3)) w') : Sl w' (some ⟨W.heap.size, 0, none⟩) 2 [a, b] :=
  ⟨Kd.F_now (sl_heap (l := [a, b]) ((h.same W.heap.size (by simp) hS).trans (heap_alloc_new W _)) rfl (by simp)), Nat.le_refl _⟩
theorem bits1 : nf 1 = 4607182418800017408 := by decide
theorem bits2 : nf 2 = 4611686018427387904 := by decide
theorem bits3 : nf 3 = 4613937818241073152 := by decide
theorem bits9 : nf 9 = 4621256167635550208 := by decide
theorem alive_put1 : putC 2 [] [1, 2] 4613937818241073152 4607182418800017408 = ([([1, 2], (3, 1))], true, 0) := by
  rw [← bits1, ← bits3]
  unfold putC
  rw [heightF_nf (by decide) (by decide)]
  decide
theorem alive_put2 : putC 2 [([1, 2], (3, 1))] [1, 2] 4611686018427387904 4621256167635550208 = ([([1, 2], (2, 9))], false, 0) := by
  rw [← bits2, ← bits9]
  unfold putC
  rw [heightF_nf (by decide) (by decide)]
  decide
theorem alive_served {os : List Tp} (h : OsOk 2 os) : (pickS 1 0 os).2 = true :=
  pickS_some os 0 ⟨plainO 2, List.mem_of_getElem? h.hd, by decide⟩
theorem kr_lit {W : World} {g h : Nat} {a b : Int} {n1 n2 : Int} (h1 : W.heap[g]? = some (.cells #[.int .i64 a, .int .i64 b] 3 (0, 0))) (h2 : W.heap[h]? = some (.cells #[.slice (some ⟨g, 0, none⟩) 2 2, .int .i64 n1, .int .i64 n2] 61 (0, 0))) : Kd.C KR W (some ⟨h, 0, none⟩) 1 [([a, b], (n1, n2))] := by
  have ho : W.ownsRow 0 61 3 (.slice (some ⟨h, 0, none⟩) 1 1) 1 ([(⟨some ⟨g, 0, none⟩, 2, [a, b], (n1, n2)⟩ : Elt)].flatMap Elt.enc3) :=
    ⟨rfl, .inr ⟨h, 1, _, rfl, Nat.zero_le _, h2, Nat.le_refl _, by decide, rfl, rfl⟩⟩
  have ha : (⟨some ⟨g, 0, none⟩, 2, [a, b], (n1, n2)⟩ : Elt).At W 0 := ⟨rfl, .inr ⟨g, 2, _, rfl, Nat.zero_le _, h1, Nat.le_refl _, by decide, rfl, rfl⟩⟩
  exact Kd.F_now (rows3 (base := 0) ho rfl (fun e he => by rw [List.mem_singleton] at he; subst he; exact ha)).2
structure AlvI (W : World) (br m : Nat) (bss : List Nat) (os : List Tp) (ok : Nat → Prop) (R : List Row) (w : World) : Prop where
  rel : RelAt ok w br 2 os R m bss
  b : Below W.heap.size W w
  new : W.heap.size ≤ m ∧ ∀ b ∈ bss, W.heap.size ≤ b
theorem AlvI.put {W w w' : World} {br m : Nat} {bss : List Nat} {os : List Tp} {ok : Nat → Prop} {R : List Row} {C : List Row × Bool × Int} {e : Ending} (h : AlvI W br m bss os ok R w) (hp : PutR ok w br 2 os m bss C e w') : AlvI W br m bss os (Plus ok w.heap.size) C.1 w' :=
  ⟨hp.2.1, hp.2.2.below_of h.b (fun k hk hS => hS.elim (fun e => by have := h.new.1; omega) (fun hm => by have := h.new.2 k hm; omega)), h.new⟩
theorem AlvI.below {W w w' : World} {br m : Nat} {bss : List Nat} {os : List Tp} {ok : Nat → Prop} {R : List Row} (h : AlvI W br m bss os ok R w) (hb : Below w.heap.size w w') : AlvI W br m bss os ok R w' :=
  ⟨h.rel.below hb, below_then h.b h.b.size hb, h.new⟩
theorem AlvI.fresh {W w : World} {br m : Nat} {bss : List Nat} {os : List Tp} {ok : Nat → Prop} {R : List Row} (h : AlvI W br m bss os ok R w) : ¬ (w.heap.size = m ∨ w.heap.size ∈ bss) := fun hS =>
  hS.elim (fun e => by have := h.rel.map.lt; omega) (fun hm => by have := h.rel.blt _ hm; omega)
theorem made2 {W : World} {e : Ending} {w' : World} (h : MadeR W 2 e w') : ∃ br os m bss, e = .returned (.tuple #[.pointer (some ⟨br, 0, none⟩), .int .i64 0]) ∧ ∃ ok, AlvI W br m bss os ok [] w' := by
  obtain ⟨br, wd, os, m, bss, hwd, rfl, hb, h1, h2, h3, hR⟩ := h
  obtain rfl : wd = 2 := by omega
  exact ⟨br, os, m, bss, rfl, _, hR, hb, h2, h3⟩
theorem alv_put {W w : World} {br m : Nat} {bss : List Nat} {os : List Tp} {ok : Nat → Prop} {R : List Row} (h : AlvI W br m bss os ok R w) (x y : Nat) (a b : Int) :
    Calls Tryz.prog 13 #[.pointer (some ⟨br, 0, none⟩), .complex .f64 x y, .slice (some ⟨w.heap.size, 0, none⟩) 2 2] (w.alloc (.cells #[.int .i64 a, .int .i64 b] 3)) fun e w' => e = .returned (.tuple #[.bool (putC 2 R [a, b] x y).2.1, .int .i64 (putC 2 R [a, b] x y).2.2]) ∧ ∃ ok', AlvI W br m bss os ok' (putC 2 R [a, b] x y).1 w' := by
  have h1 := h.below (below_alloc (Below.refl _ w) (.cells #[.int .i64 a, .int .i64 b] 3))
  refine Calls.mono (rput_calls h1.rel x y (some ⟨w.heap.size, 0, none⟩) 2 [a, b] (fun w' hk => sl2_kept a b h.fresh hk)) ?_
  intro e w' hp
  exact ⟨hp.1, _, h1.put hp⟩
theorem alv_note {W w : World} {br m : Nat} {bss : List Nat} {os : List Tp} {ok : Nat → Prop} {R : List Row} (h : AlvI W br m bss os ok R w) (a b : Int) :
    Calls Tryz.prog 24 #[.pointer (some ⟨br, 0, none⟩), .slice (some ⟨w.heap.size, 0, none⟩) 2 2] (w.alloc (.cells #[.int .i64 a, .int .i64 b] 3)) fun e w' => e = .returned (.tuple #[noteOf (lookF R [a, b]), .bool (lookF R [a, b]).isSome]) ∧ AlvI W br m bss os ok R w' := by
  have h1 := h.below (below_alloc (Below.refl _ w) (.cells #[.int .i64 a, .int .i64 b] 3))
  refine Calls.mono (rnote_calls h1.rel (some ⟨w.heap.size, 0, none⟩) 2 [a, b] (sl2_new w a b)) ?_
  rintro e w' ⟨rfl, hb⟩
  exact ⟨rfl, h1.below hb⟩
theorem alv_find {W w : World} {br m : Nat} {bss : List Nat} {os : List Tp} {ok : Nat → Prop} {R : List Row} (h : AlvI W br m bss os ok R w) (a b : Int) (hsv : (pickS 1 0 os).2 = true) :
    Calls Tryz.prog 22 #[.pointer (some ⟨br, 0, none⟩), .int .i64 1, .slice (some ⟨w.heap.size, 0, none⟩) 2 2] (w.alloc (.cells #[.int .i64 a, .int .i64 b] 3)) fun e w' => ∃ q1 q2 q3, e = .returned (.func (.func 45) #[] #[.pointer (some ⟨q1, 0, none⟩), .pointer (some ⟨q2, 0, none⟩), .pointer (some ⟨q3, 0, none⟩)]) ∧ AlvI W br m bss os ok R w' ∧ Seq2R Fence.wide Tryz.prog 45 #[.pointer (some ⟨q1, 0, none⟩), .pointer (some ⟨q2, 0, none⟩), .pointer (some ⟨q3, 0, none⟩)] (findL 2 R 1 [a, b]) w' := by
  have h1 := h.below (below_alloc (Below.refl _ w) (.cells #[.int .i64 a, .int .i64 b] 3))
  refine Calls.mono (rfind_calls _ (some ⟨br, 0, none⟩) 1 (some ⟨w.heap.size, 0, none⟩) 2 [a, b] (sl2_new w a b) (by simp)) ?_
  rintro e w' ⟨q1, q2, q3, Ak, ck, rfl, e1, e2, e3, hck, hF, hb⟩
  have h2 := h1.below hb
  exact ⟨q1, q2, q3, rfl, h2, rfind_served h2.rel q1 q2 q3 e1 1 e2 Ak ck [a, b] e3 ⟨Kd.F_now hF, hck⟩ rfl (by decide) (by decide) hsv⟩
theorem alv_walked (w : World) (q1 q2 q3 : Value) (h : Seq2R Fence.wide Tryz.prog 45 #[q1, q2, q3] (findL 2 [([1, 2], (2, 9))] 1 [1, 0]) w) :
    Calls Tryz.prog 28 #[.func (.func 45) #[] #[q1, q2, q3], .slice (some ⟨w.heap.size + 1, 0, none⟩) 1 1] ((w.alloc (.cells #[.int .i64 1, .int .i64 2] 3)).alloc (.cells #[.slice (some ⟨w.heap.size, 0, none⟩) 2 2, .int .i64 2, .int .i64 9] 61)) fun e w' => e = .returned (.bool true) ∧ Below w.heap.size w w' := by
  have hb : Below w.heap.size w ((w.alloc (.cells #[.int .i64 1, .int .i64 2] 3)).alloc (.cells #[.slice (some ⟨w.heap.size, 0, none⟩) 2 2, .int .i64 2, .int .i64 9] 61)) := below_alloc (below_alloc (Below.refl _ _) _) _
  have e : findL 2 [([1, 2], (2, 9))] 1 [1, 0] = [([1, 2], (2, 9))] := by decide
  rw [e] at h
  have g1 : ((w.alloc (.cells #[.int .i64 1, .int .i64 2] 3)).alloc (.cells #[.slice (some ⟨w.heap.size, 0, none⟩) 2 2, .int .i64 2, .int .i64 9] 61)).heap[w.heap.size]? = some (.cells #[.int .i64 1, .int .i64 2] 3 (0, 0)) := blk (below_alloc (Below.refl _ _) _) (heap_alloc_new w _)
  have g2 := heap_alloc_new (w.alloc (.cells #[.int .i64 1, .int .i64 2] 3)) (.cells #[.slice (some ⟨w.heap.size, 0, none⟩) 2 2, .int .i64 2, .int .i64 9] 61)
  rw [World.size_alloc] at g2
  refine Calls.mono (walked_calls _ 45 _ find_enters [([1, 2], (2, 9))] (by decide) (by decide) (by decide) (seq2R_later h hb) (some ⟨w.heap.size + 1, 0, none⟩) 1 [([1, 2], (2, 9))] (kr_lit g1 g2)) ?_
  rintro e w' ⟨rfl, hb2⟩
  exact ⟨rfl, below_then hb hb.size hb2⟩
set_option maxHeartbeats 16000000 in
set_option maxRecDepth 100000 in
theorem alive_calls (W : World) : Calls Tryz.prog 12 #[] W fun e w' => e = .returned (.bool true) ∧ Below W.heap.size W w' := by
  have b1 : Below W.heap.size W (W.alloc (.cells #[.int .i64 1] 3)) := below_alloc (Below.refl _ _) _
  have HB1 := Aside0.mk b1
  have HN := Aside0.mk (rnew_yes _ 2 _ 1 [1] (sl1_new W 1) (by decide))
  have f2 : FloatKind.f64.format.order 4611686018427387904 4611686018427387904 = some .eq := by decide
  have f9 : FloatKind.f64.format.order 4621256167635550208 4621256167635550208 = some .eq := by decide
  have E4 : Aside0 (noteOf (lookF [([1, 2], (2, 9))] [1, 2]) = .complex .f64 4611686018427387904 4621256167635550208) := ⟨by rw [← bits2, ← bits9]; rfl⟩
  clear b1
  go_enter Tryz.func12, Tryz.ntmps12
  go_wp2_with (first
    | (go_at_call 11; refine HN.out.mono ?_; clear HN; rintro e w1 hm; obtain ⟨br, os, m, bss, rfl, ok, hA⟩ := made2 hm; have HSV := Aside0.mk (alive_served hA.rel.hos); have HA1 := Aside0.mk hA; have HP1 := Aside0.mk (alv_put hA 4613937818241073152 4607182418800017408 1 2); rw [alive_put1] at HP1; clear hm hA)
    | (go_at_call 13; ((with_reducible refine HP1.out.mono ?_)); clear HP1; rintro e w2 ⟨rfl, ok2, hA⟩; have HA2 := Aside0.mk hA; have HP2 := Aside0.mk (alv_put hA 4611686018427387904 4621256167635550208 1 2); rw [alive_put2] at HP2; clear hA)
    | (go_at_call 13; ((with_reducible refine HP2.out.mono ?_)); clear HP2; rintro e w3 ⟨rfl, ok3, hA⟩; have HA3 := Aside0.mk hA; have HQ := Aside0.mk (alv_note hA 1 2); rw [E4.out] at HQ; clear hA)
    | (go_at_call 24; refine HQ.out.mono ?_; clear HQ; rintro e w4 ⟨rfl, hA⟩; have HA4 := Aside0.mk hA; have HL := Aside0.mk (rlen_calls hA.rel); have HF := Aside0.mk (alv_find hA 1 0 HSV.out); clear hA)
    | (go_at_call 15; refine HL.out.mono ?_; clear HL; rintro e w5 ⟨rfl, rfl⟩)
    | (go_at_call 22; refine HF.out.mono ?_; clear HF; rintro e w6 ⟨q1, q2, q3, rfl, hA, hsq⟩; have HA6 := Aside0.mk hA; have HW := Aside0.mk (alv_walked w6 _ _ _ hsq); clear hA hsq)
    | (go_at_call 28; refine HW.out.mono ?_; clear HW; rintro e w7 ⟨rfl, hb7⟩; have HB7 := Aside0.mk hb7; clear hb7))
  go_ret
  exact ⟨rfl, below_then HB1.out HB1.out.size (HA6.out.below HB7.out).b⟩
end Go.Proofs.YtcmllllbmgcnlaaGreat.Rl
end
section
namespace Go.Proofs.YtcmllllbmgcnlaaGreat.Rl
open Go.RowKit Go.Lib Go.Shelf Go.Proofs.YtcmllllbmgcnlaaGreat.G Go.Proofs.YtcmllllbmgcnlaaGreat.Tup Go.Proofs.YtcmllllbmgcnlaaGreatW.PrintWords Go.Proofs.YtcmllllbmgcnlaaGreatW.PrintLast Go.Proofs.YtcmllllbmgcnlaaGreatW.PrintMore
open Go.Proofs.YtcmllllbmgcnlaaGreat.Ch (rwrongS pickS pickS_some)
set_option linter.unusedVariables false
set_option linter.unusedSimpArgs false
theorem rwrong_none (n : Nat) : rwrongS (n : Int) [] = if n ≤ 8 then 0 else 1 := by
  unfold rwrongS
  by_cases h : n ≤ 8
  · rw [if_neg (by omega), if_pos h]
    unfold Go.Proofs.YtcmllllbmgcnlaaGreat.Ch.wrongS
    simp [Go.Proofs.YtcmllllbmgcnlaaGreat.Ch.Bad]
  · rw [if_pos (by omega), if_neg h]
structure MdI (W : World) (br wd m : Nat) (bss : List Nat) (os : List Tp) (ok : Nat → Prop) (R : List Row) (w : World) : Prop where
  rel : RelAt ok w br wd os R m bss
  b : Below W.heap.size W w
  new : W.heap.size ≤ m ∧ ∀ b ∈ bss, W.heap.size ≤ b
theorem MdI.put {W w w' : World} {br wd m : Nat} {bss : List Nat} {os : List Tp} {ok : Nat → Prop} {R : List Row} {C : List Row × Bool × Int} {e : Ending} (h : MdI W br wd m bss os ok R w) (hp : PutR ok w br wd os m bss C e w') : MdI W br wd m bss os (Plus ok w.heap.size) C.1 w' :=
  ⟨hp.2.1, hp.2.2.below_of h.b (fun k hk hS => hS.elim (fun e => by have := h.new.1; omega) (fun hm => by have := h.new.2 k hm; omega)), h.new⟩
theorem MdI.below {W w w' : World} {br wd m : Nat} {bss : List Nat} {os : List Tp} {ok : Nat → Prop} {R : List Row} (h : MdI W br wd m bss os ok R w) (hb : Below w.heap.size w w') : MdI W br wd m bss os ok R w' :=
  ⟨h.rel.below hb, below_then h.b h.b.size hb, h.new⟩
theorem MdI.sl {W w w' : World} {br wd m : Nat} {bss : List Nat} {os : List Tp} {ok : Nat → Prop} {R : List Row} (h : MdI W br wd m bss os ok R w) {A : Option Addr} {c : Nat} {t : Tp} (hs : Sl W A c t) (hk : KeptS (fun k => k = m ∨ k ∈ bss) w w') : Sl w' A c t :=
  hs.below (hk.below_of h.b (fun k hk hS => hS.elim (fun e => by have := h.new.1; omega) (fun hm => by have := h.new.2 k hm; omega)))
theorem made_i {W : World} {n : Nat} {e : Ending} {w' : World} (h : MadeR W n e w') : ∃ br os m bss, e = .returned (.tuple #[.pointer (some ⟨br, 0, none⟩), .int .i64 0]) ∧ ∃ ok, MdI W br n m bss os ok [] w' := by
  obtain ⟨br, wd, os, m, bss, hwd, rfl, hb, h1, h2, h3, hR⟩ := h
  obtain rfl : wd = n := by omega
  exact ⟨br, os, m, bss, rfl, _, hR, hb, h2, h3⟩
theorem MdI.put_calls {W w : World} {br wd m : Nat} {bss : List Nat} {os : List Tp} {ok : Nat → Prop} {R : List Row} (h : MdI W br wd m bss os ok R w) (x y : Nat) {A : Option Addr} {c : Nat} {t : Tp} (hs : Sl W A c t) :
    Calls Tryz.prog 13 #[.pointer (some ⟨br, 0, none⟩), .complex .f64 x y, .slice A t.length c] w fun e w' => e = .returned (.tuple #[.bool (putC wd R t x y).2.1, .int .i64 (putC wd R t x y).2.2]) ∧ ∃ ok', MdI W br wd m bss os ok' (putC wd R t x y).1 w' :=
  (rput_calls h.rel x y A c t (fun w' hk => h.sl hs hk)).mono fun e w' hp => ⟨hp.1, _, h.put hp⟩
end Go.Proofs.YtcmllllbmgcnlaaGreat.Rl
end
section
namespace Go.Proofs.YtcmllllbmgcnlaaGreat.Rl
open Go.RowKit Go.Lib Go.Shelf Go.Proofs.YtcmllllbmgcnlaaGreat.G Go.Proofs.YtcmllllbmgcnlaaGreat.Tup Go.Proofs.YtcmllllbmgcnlaaGreatW.PrintWords Go.Proofs.YtcmllllbmgcnlaaGreatW.PrintLast Go.Proofs.YtcmllllbmgcnlaaGreatW.PrintMore
open Go.Proofs.YtcmllllbmgcnlaaGreat.Ch (rwrongS pickS pickS_some)
set_option linter.unusedVariables false
set_option linter.unusedSimpArgs false
theorem rfind_seq {ok : Nat → Prop} {w : World} {br wd : Nat} {os : List Tp} {R : List Row} {m : Nat} {bss : List Nat} (h : RelAt ok w br wd os R m bss) (Bs Bk Bi : Nat) (hBs : w.cell? ⟨Bs, 0, none⟩ = some (.pointer (some ⟨br, 0, none⟩))) (cols : Int) (hBi : w.cell? ⟨Bi, 0, none⟩ = some (.int .i64 cols)) (Ak : Option Addr) (ck : Nat) (t : Tp) (hBk : w.cell? ⟨Bk, 0, none⟩ = some (.slice Ak t.length ck)) (st : Sl w Ak ck t) :
    Seq2R Fence.wide Tryz.prog 45 #[.pointer (some ⟨Bs, 0, none⟩), .pointer (some ⟨Bk, 0, none⟩), .pointer (some ⟨Bi, 0, none⟩)] (findL wd R cols t) w := by
  by_cases hin : t.length = wd ∧ 0 ≤ cols ∧ cols < 2 ^ wd
  · cases hs : (pickS cols 0 os).2
    · exact rfind_other h Bs Bk Bi hBs cols hBi Ak ck t hBk st hin.1 hin.2.1 hin.2.2 hs
    · exact rfind_served h Bs Bk Bi hBs cols hBi Ak ck t hBk st hin.1 hin.2.1 hin.2.2 hs
  · exact rfind_early h Bs Bk Bi hBs cols hBi Ak ck t hBk hin
def FindRows (ok : Nat → Prop) (w : World) (ys : List Row) (e : Ending) (w' : World) : Prop :=
  ∃ q1 q2 q3 : Value, e = .returned (.func (.func 45) #[] #[q1, q2, q3]) ∧ Below w.heap.size w w' ∧ Aside0 (Calls Tryz.prog 21 #[.func (.func 45) #[] #[q1, q2, q3]] w' (RowsR w' ys))
theorem find_rows {ok : Nat → Prop} {w : World} {br wd : Nat} {os : List Tp} {R : List Row} {m : Nat} {bss : List Nat} (h : RelAt ok w br wd os R m bss) (cols : Int) (A : Option Addr) (c : Nat) (t : Tp) (st : Sl w A c t) (hz : t.length * 8 ≤ 140737488351232) :
    Calls Tryz.prog 22 #[.pointer (some ⟨br, 0, none⟩), .int .i64 cols, .slice A t.length c] w (FindRows ok w (findL wd R cols t)) := by
  refine (rfind_calls w (some ⟨br, 0, none⟩) cols A c t st hz).mono ?_
  rintro e w' ⟨q1, q2, q3, Ak, ck, rfl, e1, e2, e3, hck, hF, hb⟩
  have h2 := h.below hb
  exact ⟨_, _, _, rfl, hb, ⟨rows_calls w' _ _ find_enters _ (fun x hx => h.hR.nt x (findL_sub hx)) (Nat.le_trans (findL_len _ _ _ _) h.hR.le) (rfind_seq h2 q1 q2 q3 e1 cols e2 Ak ck t e3 ⟨Kd.F_now hF, hck⟩)⟩⟩
structure One (w : World) (b wd m : Nat) (bss : List Nat) (os : List Tp) (R : List Row) (other : Nat → Prop) : Prop where
  ex : ∃ ok, RelAt ok w b wd os R m bss ∧ ∀ k, other k → ¬ (ok k ∨ k = b ∨ k = m ∨ k ∈ bss)
theorem RelAt.bound {ok : Nat → Prop} {W : World} {br wd : Nat} {os : List Tp} {R : List Row} {m : Nat} {bss : List Nat} (h : RelAt ok W br wd os R m bss) : RelAt (fun k => ok k ∧ k < W.heap.size) W br wd os R m bss := by
  obtain ⟨Ao, co, As, cs, hp, h1, h2, h3, h4⟩ := h.hp
  exact ⟨⟨Ao, co, As, cs, hp, h1, h2, Kd.F_bound h3, Kd.F_bound h4⟩, h.hos, h.hR, h.map, h.len, fun j h1 h2 => by
    obtain ⟨A, c, rt, T, hS, hT⟩ := h.sets j h1 h2
    exact ⟨A, c, rt, T, hS.bound, hT⟩, h.nd, fun b hb => ⟨fun hk => (h.nb b hb).1 hk.1, (h.nb b hb).2⟩, ⟨fun hk => h.nr.1 hk.1, h.nr.2⟩, fun hk => h.nm hk.1⟩
end Go.Proofs.YtcmllllbmgcnlaaGreat.Rl
end
section
namespace Go.Proofs.YtcmllllbmgcnlaaGreat.Rl
open Go.RowKit Go.Lib Go.Shelf Go.Proofs.YtcmllllbmgcnlaaGreat.G Go.Proofs.YtcmllllbmgcnlaaGreat.Tup Go.Proofs.YtcmllllbmgcnlaaGreatW.PrintWords Go.Proofs.YtcmllllbmgcnlaaGreatW.PrintLast Go.Proofs.YtcmllllbmgcnlaaGreatW.PrintMore
open Go.Proofs.YtcmllllbmgcnlaaGreat.Ch (rwrongS pickS pickS_some)
set_option linter.unusedVariables false
set_option linter.unusedSimpArgs false
theorem agree_self (wd : Nat) (cols : Int) (t : Tp) : agreeB wd cols t t = true := by
  unfold agreeB
  simp
theorem findL_zero (wd : Nat) (R : List Row) (t : Tp) (h : t.length = wd) : findL wd R 0 t = R := by
  unfold findL
  have hp : (0 : Int) < 2 ^ wd := Int.pow_pos (by omega)
  rw [if_pos ⟨h, by omega, hp⟩]
  refine List.filter_eq_self.2 fun x _ => ?_
  unfold agreeB
  simp
theorem pow_one_toNat (wd : Nat) : ((2 : Int) ^ wd - 1).toNat = 2 ^ wd - 1 := by
  have h : ((2 ^ wd : Nat) : Int) = (2 : Int) ^ wd := by simp
  have hp : 0 < 2 ^ wd := Nat.pow_pos (by omega)
  rw [← h]
  omega
theorem agree_full {wd : Nat} {t x : Tp} (ht : t.length = wd) (hx : x.length = wd) : agreeB wd ((2 : Int) ^ wd - 1) t x = decide (x = t) := by
  unfold agreeB
  rw [pow_one_toNat, Bool.eq_iff_iff]
  simp only [List.all_eq_true, List.mem_range, Nat.testBit_two_pow_sub_one, Bool.or_eq_true, Bool.not_eq_true', decide_eq_false_iff_not, decide_eq_true_eq]
  refine ⟨fun h => rd_ext (by omega) fun i hi => ?_, fun h c _ => .inr (by rw [h])⟩
  exact (h i (by omega)).elim (fun h => absurd (show i < wd by omega) h) id
theorem filter_one : ∀ {R : List Row}, (keys R).Nodup → ∀ {x : Row}, x ∈ R → (R.filter fun y => decide (y.1 = x.1)) = [x]
  | [], _, _, h => by cases h
  | y :: R, hn, x, h => by
    rw [keys, List.map_cons, List.nodup_cons] at hn
    by_cases e : y.1 = x.1
    · have hx : x = y := by
        rcases List.mem_cons.1 h with h | h
        · exact h
        · exact absurd (e ▸ List.mem_map.2 ⟨x, h, rfl⟩) hn.1
      subst hx
      rw [List.filter_cons_of_pos (by simp)]
      congr 1
      refine List.filter_eq_nil_iff.2 fun z hz => ?_
      simp only [decide_eq_true_eq]
      intro ez
      exact hn.1 (ez ▸ List.mem_map.2 ⟨z, hz, rfl⟩)
    · rw [List.filter_cons_of_neg (by simpa using e)]
      refine filter_one hn.2 ?_
      rcases List.mem_cons.1 h with h | h
      · subst h; exact absurd rfl e
      · exact h
theorem findL_full {wd : Nat} {R : List Row} (hR : RowsOk wd R) {x : Row} (hx : x ∈ R) : findL wd R ((2 : Int) ^ wd - 1) x.1 = [x] := by
  have hxl := hR.key (mem_keys hx)
  have hp : (0 : Int) < 2 ^ wd := Int.pow_pos (by omega)
  unfold findL
  rw [if_pos ⟨hxl, by omega, by omega⟩, ← filter_one hR.nodup hx]
  refine List.filter_congr fun y hy => ?_
  exact agree_full hxl (hR.key (mem_keys hy))
theorem findL_some {wd : Nat} {R : List Row} (hR : RowsOk wd R) {x : Row} (hx : x ∈ R) {cols : Int} (h : 0 ≤ cols ∧ cols < 2 ^ wd) : 0 < (findL wd R cols x.1).length := by
  unfold findL
  rw [if_pos ⟨hR.key (mem_keys hx), h⟩]
  exact List.length_pos_of_mem (List.mem_filter.2 ⟨hx, agree_self _ _ _⟩)
theorem findL_agree {wd : Nat} {R : List Row} {cols : Int} {t : Tp} {y : Row} (h : y ∈ findL wd R cols t) : (0 ≤ cols ∧ cols < 2 ^ wd) ∧ ∀ c < wd, cols.toNat.testBit c = true → rd y.1 (c : Int) = rd t (c : Int) := by
  unfold findL at h
  split at h
  · rename_i hc
    refine ⟨hc.2, fun c hcw hb => ?_⟩
    have := (List.mem_filter.1 h).2
    unfold agreeB at this
    have := List.all_eq_true.1 this c (List.mem_range.2 hcw)
    simpa [hb] using this
  · cases h
theorem pow_wrap {wd : Nat} (h : wd ≤ 8) : wrap64 ((2 : Int) ^ wd) = (2 : Int) ^ wd := by
  have : ∀ m : Fin 9, wrap64 ((2 : Int) ^ m.val) = (2 : Int) ^ m.val := by decide +kernel
  exact this ⟨wd, by omega⟩
theorem pow_wrap2 {wd : Nat} (h : wd ≤ 8) : IntKind.i64.wrap (IntKind.i64.wrap ((2 : Int) ^ wd) - 1) = (2 : Int) ^ wd - 1 := by
  have : ∀ m : Fin 9, IntKind.i64.wrap (IntKind.i64.wrap ((2 : Int) ^ m.val) - 1) = (2 : Int) ^ m.val - 1 := by decide +kernel
  exact this ⟨wd, by omega⟩
end Go.Proofs.YtcmllllbmgcnlaaGreat.Rl
end
section
namespace Go.Proofs.YtcmllllbmgcnlaaGreat.Rl
open Go.RowKit Go.Lib Go.Shelf Go.Proofs.YtcmllllbmgcnlaaGreat.G Go.Proofs.YtcmllllbmgcnlaaGreat.Tup Go.Proofs.YtcmllllbmgcnlaaGreatW.PrintWords Go.Proofs.YtcmllllbmgcnlaaGreatW.PrintLast Go.Proofs.YtcmllllbmgcnlaaGreatW.PrintMore
open Go.Proofs.YtcmllllbmgcnlaaGreat.Ch (rwrongS pickS pickS_some)
set_option linter.unusedVariables false
set_option linter.unusedSimpArgs false
theorem new_any (W : World) (width : Int) (A : Option Addr) (c : Nat) (l : List Int) (h : Sl W A c l) :
    Calls Tryz.prog 11 #[.int .i64 width, .slice A l.length c] W fun e w' => ∃ a, e = .returned (.tuple #[.pointer a, .int .i64 (rwrongS width l)]) ∧ Below W.heap.size W w' := by
  by_cases h0 : rwrongS width l = 0
  · refine (rnew_yes W width A c l h h0).mono ?_
    rintro e w' ⟨br, wd, os, m, bss, _, rfl, hb, _⟩
    exact ⟨_, by rw [h0], hb⟩
  · exact (rnew_no W width A c l h h0).mono fun e w' hp => ⟨_, hp⟩
theorem run_append_nil0 {P : Program} {w : World} (base : Nat) (t ty e : TypeId) (i : TypeInfo) (size : Nat) (ht : P.underlying t = some (.slice e)) (hi : P.info? e = some i)
    (v : Value) (n : Nat) (xs : List Value) (hown : w.ownsRow base e size v n xs) (c : Nat) :
    (Builtin.append_ #[t, t] ty #[v, .slice none 0 c]).run P w = .ok v w := by
  rcases hown.2 with ⟨rfl, rfl⟩ | ⟨g, cap, cur, rfl, _, _, hnc, _⟩
  · simp [Builtin.append_, run_underlying ht, sizeOf, typeInfo, hi, Builtin.lenOf, Builtin.firstCells]
  · simp [Builtin.append_, run_underlying ht, sizeOf, typeInfo, hi, Builtin.lenOf, Builtin.firstCells, hnc, storeCells]
end Go.Proofs.YtcmllllbmgcnlaaGreat.Rl
end
