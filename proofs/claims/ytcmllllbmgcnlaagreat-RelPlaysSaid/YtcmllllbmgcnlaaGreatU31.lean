/- Own texts, joined and cut to what the claim stands on: RlAlive, RlLaw4, RlRef, RlRefPut, RlRefIns, RlRefNew. -/
import Derived.Deep.RegionHeld3
import Derived.Deep.QuietTactic
import Derived.BigQuiet
import Derived.Test.YtcmllllbmgcnlaaGreatU30
import Derived.Test.YtcmllllbmgcnlaaGreatU26
import Derived.Test.YtcmllllbmgcnlaaGreatU9
import Derived.Test.YtcmllllbmgcnlaaGreatU20
import Derived.Test.YtcmllllbmgcnlaaGreatU18
import Derived.Test.YtcmllllbmgcnlaaGreatU25
section
namespace Go.Proofs.YtcmllllbmgcnlaaGreat.Rl
open Go.RowKit Go.Lib Go.Shelf Go.Proofs.YtcmllllbmgcnlaaGreat.G Go.Proofs.YtcmllllbmgcnlaaGreat.Tup Go.Proofs.YtcmllllbmgcnlaaGreatW.PrintWords Go.Proofs.YtcmllllbmgcnlaaGreatW.PrintLast Go.Proofs.YtcmllllbmgcnlaaGreatW.PrintMore
open Go.Proofs.YtcmllllbmgcnlaaGreat.Ch (rwrongS pickS pickS_some)
set_option linter.unusedVariables false
set_option linter.unusedSimpArgs false
theorem sl_heap {W : World} {g : Nat} {cs : Array Value} {l : List Int} (h : W.heap[g]? = some (.cells cs 3 (0, 0))) (e : cs.toList = l.map (Value.int .i64)) (hn : l.length ≤ 1000000) : Kd.F (Kd.int .i64) W (fun k => k = g) (some ⟨g, 0, none⟩) l.length l := by
 have ho : W.ownsRow 0 3 1 (.slice (some ⟨g, 0, none⟩) l.length l.length) l.length (l.map (Value.int .i64)) :=
  ⟨by simp, .inr ⟨g, l.length, cs, rfl, Nat.zero_le _, h, Nat.le_refl _, by unfold maxLen; omega, by have := congrArg List.length e; simp at this; simp [this], by rw [e]; exact List.take_of_length_le (by simp)⟩⟩
 obtain ⟨A', c', e', hle, hF⟩ := rows_in (d := Kd.int .i64) (ok := fun _ => False) rfl ho (Els.of (by simp) fun i hi hu => by rw [List.getElem_map]; exact fun W' _ => rfl) rfl
 injection e' with e1 e2 e3
 subst e1
 exact Kd.F_mono hF fun k hk => hk.elim False.elim fun hk => by simpa [Value.ownBlock] using hk
theorem sl2_new (W : World) (a b : Int) : Sl (W.alloc (.cells #[.int .i64 a, .int .i64 b] 3)) (some ⟨W.heap.size, 0, none⟩) 2 [a, b] :=
 ⟨Kd.F_now (sl_heap (l := [a, b]) (heap_alloc_new W _) rfl (by simp)), Nat.le_refl _⟩
theorem sl1_new (W : World) (a : Int) : Sl (W.alloc (.cells #[.int .i64 a] 3)) (some ⟨W.heap.size, 0, none⟩) 1 [a] :=
 ⟨Kd.F_now (sl_heap (l := [a]) (heap_alloc_new W _) rfl (by simp)), Nat.le_refl _⟩
theorem sl2_kept {W w' : World} {S : Nat → Prop} (a b : Int) (hS : ¬ S W.heap.size) (h : KeptS S (W.alloc (.cells #[.int .i64 a, .int .i64 b] 3)) w') : Sl w' (some ⟨W.heap.size, 0, none⟩) 2 [a, b] :=
 ⟨Kd.F_now (sl_heap (l := [a, b]) ((h.same W.heap.size (by simp) hS).trans (heap_alloc_new W _)) rfl (by simp)), Nat.le_refl _⟩
theorem bits1 : nf 1 = 4607182418800017408 := by decide
theorem bits2 : nf 2 = 4611686018427387904 := by decide
theorem bits3 : nf 3 = 4613937818241073152 := by decide
theorem bits9 : nf 9 = 4621256167635550208 := by decide
theorem alive_put1 : putC 2 [] [1, 2] 4613937818241073152 4607182418800017408 = ([([1, 2], (3, 1))], true, 0) := by
 rw [← bits1, ← bits3]
 unfold putC
 rw [heightF_nf (by decide) (by decide)]
 decide
theorem alive_put2 : putC 2 [([1, 2], (3, 1))] [1, 2] 4611686018427387904 4621256167635550208 = ([([1, 2], (2, 9))], false, 0) := by
 rw [← bits2, ← bits9]
 unfold putC
 rw [heightF_nf (by decide) (by decide)]
 decide
theorem alive_served {os : List Tp} (h : OsOk 2 os) : (pickS 1 0 os).2 = true :=
 pickS_some os 0 ⟨plainO 2, List.mem_of_getElem? h.hd, by decide⟩
theorem kr_lit {W : World} {g h : Nat} {a b : Int} {n1 n2 : Int} (h1 : W.heap[g]? = some (.cells #[.int .i64 a, .int .i64 b] 3 (0, 0))) (h2 : W.heap[h]? = some (.cells #[.slice (some ⟨g, 0, none⟩) 2 2, .int .i64 n1, .int .i64 n2] 61 (0, 0))) : Kd.C KR W (some ⟨h, 0, none⟩) 1 [([a, b], (n1, n2))] := by
 have ho : W.ownsRow 0 61 3 (.slice (some ⟨h, 0, none⟩) 1 1) 1 ([(⟨some ⟨g, 0, none⟩, 2, [a, b], (n1, n2)⟩ : Elt)].flatMap Elt.enc3) :=
  ⟨rfl, .inr ⟨h, 1, _, rfl, Nat.zero_le _, h2, Nat.le_refl _, by decide, rfl, rfl⟩⟩
 have ha : (⟨some ⟨g, 0, none⟩, 2, [a, b], (n1, n2)⟩ : Elt).At W 0 := ⟨rfl, .inr ⟨g, 2, _, rfl, Nat.zero_le _, h1, Nat.le_refl _, by decide, rfl, rfl⟩⟩
 exact Kd.F_now (rows3 (base := 0) ho rfl (fun e he => by rw [List.mem_singleton] at he; subst he; exact ha)).2
structure AlvI (W : World) (br m : Nat) (bss : List Nat) (os : List Tp) (ok : Nat → Prop) (R : List Row) (w : World) : Prop where
 rel : RelAt ok w br 2 os R m bss
 b : Below W.heap.size W w
 new : W.heap.size ≤ m ∧ ∀ b ∈ bss, W.heap.size ≤ b
theorem AlvI.put {W w w' : World} {br m : Nat} {bss : List Nat} {os : List Tp} {ok : Nat → Prop} {R : List Row} {C : List Row × Bool × Int} {e : Ending} (h : AlvI W br m bss os ok R w) (hp : PutR ok w br 2 os m bss C e w') : AlvI W br m bss os (Plus ok w.heap.size) C.1 w' :=
 ⟨hp.2.1, hp.2.2.below_of h.b (fun k hk hS => hS.elim (fun e => by have := h.new.1; omega) (fun hm => by have := h.new.2 k hm; omega)), h.new⟩
theorem AlvI.below {W w w' : World} {br m : Nat} {bss : List Nat} {os : List Tp} {ok : Nat → Prop} {R : List Row} (h : AlvI W br m bss os ok R w) (hb : Below w.heap.size w w') : AlvI W br m bss os ok R w' :=
 ⟨h.rel.below hb, below_then h.b h.b.size hb, h.new⟩
theorem AlvI.fresh {W w : World} {br m : Nat} {bss : List Nat} {os : List Tp} {ok : Nat → Prop} {R : List Row} (h : AlvI W br m bss os ok R w) : ¬ (w.heap.size = m ∨ w.heap.size ∈ bss) := fun hS =>
 hS.elim (fun e => by have := h.rel.map.lt; omega) (fun hm => by have := h.rel.blt _ hm; omega)
theorem made2 {W : World} {e : Ending} {w' : World} (h : MadeR W 2 e w') : ∃ br os m bss, e = .returned (.tuple #[.pointer (some ⟨br, 0, none⟩), .int .i64 0]) ∧ ∃ ok, AlvI W br m bss os ok [] w' := by
 obtain ⟨br, wd, os, m, bss, hwd, rfl, hb, h1, h2, h3, hR⟩ := h
 obtain rfl : wd = 2 := by omega
 exact ⟨br, os, m, bss, rfl, _, hR, hb, h2, h3⟩
theorem alv_put {W w : World} {br m : Nat} {bss : List Nat} {os : List Tp} {ok : Nat → Prop} {R : List Row} (h : AlvI W br m bss os ok R w) (x y : Nat) (a b : Int) :
  Calls Tryz.prog 13 #[.pointer (some ⟨br, 0, none⟩), .complex .f64 x y, .slice (some ⟨w.heap.size, 0, none⟩) 2 2] (w.alloc (.cells #[.int .i64 a, .int .i64 b] 3)) fun e w' => e = .returned (.tuple #[.bool (putC 2 R [a, b] x y).2.1, .int .i64 (putC 2 R [a, b] x y).2.2]) ∧ ∃ ok', AlvI W br m bss os ok' (putC 2 R [a, b] x y).1 w' := by
 have h1 := h.below (below_alloc (Below.refl _ w) (.cells #[.int .i64 a, .int .i64 b] 3))
 refine Calls.mono (rput_calls h1.rel x y (some ⟨w.heap.size, 0, none⟩) 2 [a, b] (fun w' hk => sl2_kept a b h.fresh hk)) ?_
 intro e w' hp
 exact ⟨hp.1, _, h1.put hp⟩
theorem alv_note {W w : World} {br m : Nat} {bss : List Nat} {os : List Tp} {ok : Nat → Prop} {R : List Row} (h : AlvI W br m bss os ok R w) (a b : Int) :
  Calls Tryz.prog 24 #[.pointer (some ⟨br, 0, none⟩), .slice (some ⟨w.heap.size, 0, none⟩) 2 2] (w.alloc (.cells #[.int .i64 a, .int .i64 b] 3)) fun e w' => e = .returned (.tuple #[noteOf (lookF R [a, b]), .bool (lookF R [a, b]).isSome]) ∧ AlvI W br m bss os ok R w' := by
 have h1 := h.below (below_alloc (Below.refl _ w) (.cells #[.int .i64 a, .int .i64 b] 3))
 refine Calls.mono (rnote_calls h1.rel (some ⟨w.heap.size, 0, none⟩) 2 [a, b] (sl2_new w a b)) ?_
 rintro e w' ⟨rfl, hb⟩
 exact ⟨rfl, h1.below hb⟩
theorem alv_find {W w : World} {br m : Nat} {bss : List Nat} {os : List Tp} {ok : Nat → Prop} {R : List Row} (h : AlvI W br m bss os ok R w) (a b : Int) (hsv : (pickS 1 0 os).2 = true) :
  Calls Tryz.prog 22 #[.pointer (some ⟨br, 0, none⟩), .int .i64 1, .slice (some ⟨w.heap.size, 0, none⟩) 2 2] (w.alloc (.cells #[.int .i64 a, .int .i64 b] 3)) fun e w' => ∃ q1 q2 q3, e = .returned (.func (.func 45) #[] #[.pointer (some ⟨q1, 0, none⟩), .pointer (some ⟨q2, 0, none⟩), .pointer (some ⟨q3, 0, none⟩)]) ∧ AlvI W br m bss os ok R w' ∧ Seq2R Fence.wide Tryz.prog 45 #[.pointer (some ⟨q1, 0, none⟩), .pointer (some ⟨q2, 0, none⟩), .pointer (some ⟨q3, 0, none⟩)] (findL 2 R 1 [a, b]) w' := by
 have h1 := h.below (below_alloc (Below.refl _ w) (.cells #[.int .i64 a, .int .i64 b] 3))
 refine Calls.mono (rfind_calls _ (some ⟨br, 0, none⟩) 1 (some ⟨w.heap.size, 0, none⟩) 2 [a, b] (sl2_new w a b) (by simp)) ?_
 rintro e w' ⟨q1, q2, q3, Ak, ck, rfl, e1, e2, e3, hck, hF, hb⟩
 have h2 := h1.below hb
 exact ⟨q1, q2, q3, rfl, h2, rfind_served h2.rel q1 q2 q3 e1 1 e2 Ak ck [a, b] e3 ⟨Kd.F_now hF, hck⟩ rfl (by decide) (by decide) hsv⟩
theorem alv_walked (w : World) (q1 q2 q3 : Value) (h : Seq2R Fence.wide Tryz.prog 45 #[q1, q2, q3] (findL 2 [([1, 2], (2, 9))] 1 [1, 0]) w) :
  Calls Tryz.prog 28 #[.func (.func 45) #[] #[q1, q2, q3], .slice (some ⟨w.heap.size + 1, 0, none⟩) 1 1] ((w.alloc (.cells #[.int .i64 1, .int .i64 2] 3)).alloc (.cells #[.slice (some ⟨w.heap.size, 0, none⟩) 2 2, .int .i64 2, .int .i64 9] 61)) fun e w' => e = .returned (.bool true) ∧ Below w.heap.size w w' := by
 have hb : Below w.heap.size w ((w.alloc (.cells #[.int .i64 1, .int .i64 2] 3)).alloc (.cells #[.slice (some ⟨w.heap.size, 0, none⟩) 2 2, .int .i64 2, .int .i64 9] 61)) := below_alloc (below_alloc (Below.refl _ _) _) _
 have e : findL 2 [([1, 2], (2, 9))] 1 [1, 0] = [([1, 2], (2, 9))] := by decide
 rw [e] at h
 have g1 : ((w.alloc (.cells #[.int .i64 1, .int .i64 2] 3)).alloc (.cells #[.slice (some ⟨w.heap.size, 0, none⟩) 2 2, .int .i64 2, .int .i64 9] 61)).heap[w.heap.size]? = some (.cells #[.int .i64 1, .int .i64 2] 3 (0, 0)) := blk (below_alloc (Below.refl _ _) _) (heap_alloc_new w _)
 have g2 := heap_alloc_new (w.alloc (.cells #[.int .i64 1, .int .i64 2] 3)) (.cells #[.slice (some ⟨w.heap.size, 0, none⟩) 2 2, .int .i64 2, .int .i64 9] 61)
 rw [World.size_alloc] at g2
 refine Calls.mono (walked_calls _ 45 _ find_enters [([1, 2], (2, 9))] (by decide) (by decide) (by decide) (seq2R_later h hb) (some ⟨w.heap.size + 1, 0, none⟩) 1 [([1, 2], (2, 9))] (kr_lit g1 g2)) ?_
 rintro e w' ⟨rfl, hb2⟩
 exact ⟨rfl, below_then hb hb.size hb2⟩
set_option maxHeartbeats 16000000 in
set_option maxRecDepth 100000 in
theorem alive_calls (W : World) : Calls Tryz.prog 12 #[] W fun e w' => e = .returned (.bool true) ∧ Below W.heap.size W w' := by
 have b1 : Below W.heap.size W (W.alloc (.cells #[.int .i64 1] 3)) := below_alloc (Below.refl _ _) _
 have HB1 := Aside0.mk b1
 have HN := Aside0.mk (rnew_yes _ 2 _ 1 [1] (sl1_new W 1) (by decide))
 have f2 : FloatKind.f64.format.order 4611686018427387904 4611686018427387904 = some .eq := by decide
 have f9 : FloatKind.f64.format.order 4621256167635550208 4621256167635550208 = some .eq := by decide
 have E4 : Aside0 (noteOf (lookF [([1, 2], (2, 9))] [1, 2]) = .complex .f64 4611686018427387904 4621256167635550208) := ⟨by rw [← bits2, ← bits9]; rfl⟩
 clear b1
 go_enter Tryz.func12, Tryz.ntmps12
 go_wp2_with (first
  | (go_at_call 11; refine HN.out.mono ?_; clear HN; rintro e w1 hm; obtain ⟨br, os, m, bss, rfl, ok, hA⟩ := made2 hm; have HSV := Aside0.mk (alive_served hA.rel.hos); have HA1 := Aside0.mk hA; have HP1 := Aside0.mk (alv_put hA 4613937818241073152 4607182418800017408 1 2); rw [alive_put1] at HP1; clear hm hA)
  | (go_at_call 13; ((with_reducible refine HP1.out.mono ?_)); clear HP1; rintro e w2 ⟨rfl, ok2, hA⟩; have HA2 := Aside0.mk hA; have HP2 := Aside0.mk (alv_put hA 4611686018427387904 4621256167635550208 1 2); rw [alive_put2] at HP2; clear hA)
  | (go_at_call 13; ((with_reducible refine HP2.out.mono ?_)); clear HP2; rintro e w3 ⟨rfl, ok3, hA⟩; have HA3 := Aside0.mk hA; have HQ := Aside0.mk (alv_note hA 1 2); rw [E4.out] at HQ; clear hA)
  | (go_at_call 24; refine HQ.out.mono ?_; clear HQ; rintro e w4 ⟨rfl, hA⟩; have HA4 := Aside0.mk hA; have HL := Aside0.mk (rlen_calls hA.rel); have HF := Aside0.mk (alv_find hA 1 0 HSV.out); clear hA)
  | (go_at_call 15; refine HL.out.mono ?_; clear HL; rintro e w5 ⟨rfl, rfl⟩)
  | (go_at_call 22; refine HF.out.mono ?_; clear HF; rintro e w6 ⟨q1, q2, q3, rfl, hA, hsq⟩; have HA6 := Aside0.mk hA; have HW := Aside0.mk (alv_walked w6 _ _ _ hsq); clear hA hsq)
  | (go_at_call 28; refine HW.out.mono ?_; clear HW; rintro e w7 ⟨rfl, hb7⟩; have HB7 := Aside0.mk hb7; clear hb7))
 go_ret
 exact ⟨rfl, below_then HB1.out HB1.out.size (HA6.out.below HB7.out).b⟩
theorem cells2 {w w' : World} {T : TypeId} {S : Nat → Prop} (a b : Int) (hk : KeptS S (w.alloc (.cells #[.int .i64 a, .int .i64 b] T)) w') (hS : ¬ S w.heap.size) : w'.cell? ⟨w.heap.size, 0, none⟩ = some (.int .i64 a) ∧ w'.cell? ⟨w.heap.size, 1, none⟩ = some (.int .i64 b) := by
 have hp := (hk.same w.heap.size (by simp) hS).trans (heap_alloc_new w _)
 exact ⟨(Tup.cell_of_heap hp 0).trans rfl, (Tup.cell_of_heap hp 1).trans rfl⟩
end Go.Proofs.YtcmllllbmgcnlaaGreat.Rl
end
section
namespace Go.Proofs.YtcmllllbmgcnlaaGreat.Rl
open Go.RowKit Go.Lib Go.Shelf Go.Proofs.YtcmllllbmgcnlaaGreat.G Go.Proofs.YtcmllllbmgcnlaaGreat.Tup Go.Proofs.YtcmllllbmgcnlaaGreatW.PrintWords Go.Proofs.YtcmllllbmgcnlaaGreatW.PrintLast Go.Proofs.YtcmllllbmgcnlaaGreatW.PrintMore
set_option linter.unusedVariables false
set_option linter.unusedSimpArgs false
structure Ref7 (ok : Nat → Prop) (W : World) (base b j wd : Nat) (A : Option Addr) (c : Nat) (es : List Elt) (R : List Row) : Prop where
 c0 : W.cell? ⟨b, j, none⟩ = some (.int .i64 (wd : Int))
 c1 : W.cell? ⟨b, j + 1, none⟩ = some (.slice A R.length c)
 fz : W.frozen? ⟨b, j + 1, none⟩ = false
 own : W.ownsRow base 61 3 (.slice A R.length c) R.length (es.flatMap Elt.enc3)
 ok0 : ∀ k, (Value.slice A R.length c).ownBlock = some k → ok k
 el : ∀ e ∈ es, e.At W base
 okE : ∀ e ∈ es, ∀ k, e.v.ownBlock = some k → ok k
 row : es.map Elt.row = R
 h8 : wd ≤ 8
 hR : RowsOk wd R
section
variable {ok : Nat → Prop} {W W1 : World} {base b j wd : Nat} {A : Option Addr} {c : Nat} {es : List Elt} {R : List Row}
theorem Ref7.step (h : Ref7 ok W base b j wd A c es R) (hm : ∀ k, ok k → k < W.heap.size → W1.heap[k]? = W.heap[k]?) (h0 : W1.cell? ⟨b, j, none⟩ = W.cell? ⟨b, j, none⟩) (h1 : W1.cell? ⟨b, j + 1, none⟩ = W.cell? ⟨b, j + 1, none⟩) (h2 : W1.frozen? ⟨b, j + 1, none⟩ = W.frozen? ⟨b, j + 1, none⟩) : Ref7 ok W1 base b j wd A c es R :=
 ⟨h0.trans h.c0, h1.trans h.c1, h2.trans h.fz, own_move h.own fun k hk => hm k (h.ok0 k hk) (own_lt h.own k hk.symm), h.ok0, fun e he => own_move (h.el e he) fun k hk => hm k (h.okE e he k hk) (own_lt (h.el e he) k hk.symm), h.okE, h.row, h.h8, h.hR⟩
theorem Ref7.since (h : Ref7 ok W base b j wd A c es R) (hs : Since W W1) : Ref7 ok W1 base b j wd A c es R :=
 h.step (fun k _ hk => hs.b.block k hk) ((pw_cell_below hs.b h.c0).trans h.c0.symm) ((pw_cell_below hs.b h.c1).trans h.c1.symm) (hs.b.frozen (p := ⟨b, j + 1, none⟩) (World.block_lt_of_cell? W _ h.c1))
theorem Ref7.mono {ok' : Nat → Prop} (h : Ref7 ok W base b j wd A c es R) (hm : ∀ k, ok k → ok' k) : Ref7 ok' W base b j wd A c es R :=
 ⟨h.c0, h.c1, h.fz, h.own, fun k hk => hm k (h.ok0 k hk), h.el, fun e he k hk => hm k (h.okE e he k hk), h.row, h.h8, h.hR⟩
theorem Ref7.len (h : Ref7 ok W base b j wd A c es R) : es.length = R.length := by rw [← h.row, List.length_map]
theorem Ref7.C (h : Ref7 ok W base b j wd A c es R) : Kd.C KR W A R.length R := by
 have := (rows3 h.own h.len h.el).2
 rw [h.row] at this
 exact Kd.F_now this
theorem Ref7.sl (h : Ref7 ok W base b j wd A c es R) : R.length ≤ c := (rows3 h.own h.len h.el).1
end
def ratL (o : Tp) (L : List Tp) (t : Tp) : Nat := (L.takeWhile fun a => decide (cmpS o a t < 0)).length
theorem tw_len {α : Type} (p : α → Bool) : ∀ (L : List α) (i : Nat), i ≤ L.length → (∀ j (hj : j < L.length), j < i → p L[j] = true) → (∀ h : i < L.length, p (L[i]'h) = false) → (L.takeWhile p).length = i := by
 intro L
 induction L with
 | nil => intro i hi _ _; simp at hi; subst hi; rfl
 | cons a L ih =>
  intro i hi h1 h2
  cases i with
  | zero =>
   have := h2 (by simp)
   simp at this
   simp [this]
  | succ i =>
   have ha := h1 0 (by simp) (by omega)
   simp only [List.getElem_cons_zero] at ha
   rw [List.takeWhile_cons_of_pos ha, List.length_cons]
   rw [ih i (by simpa using hi) (fun j hj hji => by have := h1 (j + 1) (by simpa using hj) (by omega); simpa using this) (fun h => by have := h2 (by simpa using h); simpa using this)]
theorem tw_congr {α : Type} {p q : α → Bool} : ∀ M : List α, (∀ a ∈ M, p a = q a) → M.takeWhile p = M.takeWhile q := by
 intro M
 induction M with
 | nil => intro _; rfl
 | cons a M ih =>
  intro h
  have ha := h a (by simp)
  have ih' := ih fun b hb => h b (List.mem_cons_of_mem _ hb)
  by_cases hp : p a = true
  ·rw [List.takeWhile_cons_of_pos hp, List.takeWhile_cons_of_pos (ha ▸ hp), ih']
  ·rw [List.takeWhile_cons_of_neg hp, List.takeWhile_cons_of_neg (ha ▸ hp)]
theorem ratL_idx {o t : Tp} {L : List Tp} (hf : ∀ a ∈ L, Fit o a) (ht : Fit o t) : ratL o L t = idx o L t := by
 unfold ratL idx
 rw [tw_congr L fun a ha => by show decide (cmpS o a t < 0) = decide (Lt o a t); rw [cmpS_fit (hf a ha) ht]; rfl]
theorem rhas_iff {o t : Tp} {L : List Tp} (hf : ∀ a ∈ L, Fit o a) (hu : Up o L) (ht : t.length = o.length) (hr : Rt o) : (∃ h : ratL o L t < L.length, L[ratL o L t]'h = t) ↔ t ∈ L := by
 have hft : Fit o t := ⟨ht, hr⟩
 rw [ratL_idx hf hft]
 constructor
 ·rintro ⟨h, e⟩
  rw [← e]; exact List.getElem_mem h
 ·intro h
  obtain ⟨i, hi, rfl⟩ := List.getElem_of_mem h
  have hq : i = idx o L L[i] := idx_unique hu i (by omega) (fun j hj hji => (List.pairwise_iff_getElem.1 hu) j i hj hi hji) (fun j hj hij hlt => by
   rcases Nat.lt_or_eq_of_le hij with h1 | h1
   ·exact ((List.pairwise_iff_getElem.1 hu) i j hi hj h1).asymm hlt
   ·subst h1; exact hlt.irrefl)
  exact ⟨by omega, by simp only [← hq]⟩
theorem RowsOk.fit {wd : Nat} (h8 : wd ≤ 8) {R : List Row} (h : RowsOk wd R) : ∀ a ∈ keys R, Fit (plainO wd) a := fun a ha => ⟨by rw [plainO_len]; exact h.key ha, plainO_rt h8⟩
theorem at7_iff {wd : Nat} (h8 : wd ≤ 8) {R : List Row} (h : RowsOk wd R) (t : Tp) {i : Nat} (hi : i = ratL (plainO wd) (keys R) t) (hl : i < (keys R).length) : (keys R)[i] = t ↔ t ∈ keys R := by
 subst hi
 by_cases ht : t.length = wd
 ·rw [← rhas_iff (h.fit h8) h.up (by rw [plainO_len]; exact ht) (plainO_rt h8)]
  exact ⟨fun e => ⟨hl, e⟩, fun ⟨_, e⟩ => e⟩
 ·exact ⟨fun e => e ▸ List.getElem_mem _, fun e => absurd (h.key e) ht⟩
theorem at7_end {wd : Nat} (h8 : wd ≤ 8) {R : List Row} (h : RowsOk wd R) (t : Tp) (hl : ratL (plainO wd) (keys R) t = (keys R).length) : t ∉ keys R := fun hm => by
 obtain ⟨h, _⟩ := (rhas_iff (h.fit h8) h.up (by rw [plainO_len]; exact h.key hm) (plainO_rt h8)).2 hm
 omega
theorem plain7_is (n : Nat) (h : n ≤ 8) : vestryref07_plain.f 10 (n : Int) = some (plainO n) := by
 have : ∀ m : Fin 9, vestryref07_plain.f 10 ((m.val : Nat) : Int) = some (plainO m.val) := by decide +kernel
 exact this ⟨n, by omega⟩
theorem plain7_calls (w : World) (n : Nat) (h : n ≤ 8) :
  Calls Tryz.prog 83 #[.int .i64 (n : Int)] w fun e w' => ∃ A c, e = .returned (.slice A n c) ∧ Sl w' A c (plainO n) ∧ Since w w' :=
 (vestryref07_plain.calls 10 n (plainO n) w (plain7_is n h)).mono (by
  rintro e w' ⟨v, rfl, hR, hb⟩
  obtain ⟨A, c, rfl, hl, hc⟩ := Kd.R_reads hR
  exact ⟨A, c, by rw [plainO_len], ⟨hc, hl⟩, ⟨hb⟩⟩)
theorem rcmp7_calls (wd : Nat) (h8 : wd ≤ 8) (A0 : Option Addr) (c0 : Nat) (A1 : Option Addr) (c1 : Nat) (a : Tp) (A2 : Option Addr) (c2 : Nat) (b : Tp) (w : World) (h0 : Sl w A0 c0 (plainO wd)) (h1 : Sl w A1 c1 a) (h2 : Sl w A2 c2 b) :
  Calls Tryz.prog 82 #[.slice A0 wd c0, .slice A1 a.length c1, .slice A2 b.length c2] w fun e w' => e = .returned (.int .i64 (cmpS (plainO wd) a b)) ∧ Drawn0 w w' := by
 have h := vestryref04_Cmp.calls (2 * (plainO wd).length + 2) _ _ (plainO wd) _ _ a _ _ b _ w h0.C h0.le h1.C h1.le h2.C h2.le (rcmp_is _ (plainO wd) a b (by rw [plainO_len]; omega) (by omega))
 rw [plainO_len] at h
 exact h
set_option maxHeartbeats 4000000 in
set_option maxRecDepth 100000 in
theorem rat7_calls {ok : Nat → Prop} (W : World) {base b j wd : Nat} {A : Option Addr} {c : Nat} {es : List Elt} {R : List Row} (h : Ref7 ok W base b j wd A c es R) (At : Option Addr) (ct : Nat) (t : Tp) (st : Sl W At ct t) :
  Calls Tryz.prog 56 #[.pointer (some ⟨b, j, none⟩), .slice At t.length ct] W fun e w' => e = .returned (.tuple #[.int .i64 (ratL (plainO wd) (keys R) t : Nat), .bool (decide (t ∈ keys R))]) ∧ Since W w' := by
 have h0 := h.c0
 have h1 := h.c1
 obtain ⟨n, hn⟩ : ∃ n, n = R.length := ⟨_, rfl⟩
 rw [← hn] at h1
 have HN := Aside0.mk hn
 have hnl : n ≤ 1024 := by rw [hn]; exact h.hR.le
 have HC : Aside0 (Kd.C KR W A n R) := ⟨by rw [hn]; exact h.C⟩
 have HH := Aside0.mk h
 have HST := Aside0.mk st
 have HKY := Aside0.mk (show (keys R).length = n from by simp [keys, hn])
 have h8 := h.h8
 have HW0 := Aside0.mk (And.intro h0 h1)
 clear h st hn
 go_enter Tryz.func56, Tryz.ntmps56
 go_wp2_with fail
 go_loopg [6] n (fun gk v6 wr => ∃ i : Nat, v6 = .int .i64 (i : Int) ∧ Aside0 (i + gk = n) ∧ Aside0 (∀ q (hq : q < (keys R).length), q < i → decide (cmpS (plainO wd) (keys R)[q] t < 0) = true) ∧ Aside0 (Since W wr))
 case atStart => exact ⟨0, rfl, ⟨by omega⟩, ⟨fun q hq h => by omega⟩, ⟨Since.refl _⟩⟩
 case round =>
  obtain ⟨i, rfl, HI, HB, HS⟩ := hrel
  clear h0 h1
  have hs0 : Since wr wr := Since.refl _
  by_cases hi : i < n
  ·have hil : i < R.length := by rw [← HN.out]; exact hi
   have hik : i < (keys R).length := by rw [HKY.out]; exact hi
   have hii : (i : Int) < (n : Int) := by omega
   have hid : decide (i < n) = true := decide_eq_true hi
   obtain ⟨ad, Ai, ci, rfl, hcell, _, _, hsl⟩ := kr_at HC.out i hil
   obtain ⟨x, hx⟩ : ∃ x, x = (R[i]).1 := ⟨_, rfl⟩
   rw [← hx] at hcell hsl
   have hkx : (keys R)[i] = x := by rw [hx]; simp [keys]
   obtain ⟨z, hz⟩ : ∃ z, z = cmpS (plainO wd) x t := ⟨_, rfl⟩
   have HCM := Aside0.mk (fun (w : World) (hw : Since wr w) (A0 : Option Addr) (c0 : Nat) (h0 : Sl w A0 c0 (plainO wd)) => rcmp7_calls wd h8 A0 c0 Ai ci x At ct t w h0 ((HS.out.trans hw).sl hsl) ((HS.out.trans hw).sl HST.out))
   rw [← hz] at HCM
   have HSM := Aside0.mk (fun (w : World) (hw : Since W w) => same_calls Ai ci x At ct t w (hw.sl hsl) (hw.sl HST.out) (by have := HH.out.hR.key (show x ∈ keys R from by rw [← hkx]; exact List.getElem_mem _); omega))
   have HKP := Aside0.mk (fun (w : World) (hw : Since wr w) => show (w.cell? ⟨b, j, none⟩ = some (.int .i64 (wd : Int)) ∧ w.cell? ⟨b, j + 1, none⟩ = some (.slice (some ad) n c) ∧ w.cell? (ad.add (i * 3)) = some (.slice Ai x.length ci)) ∧ Since wr w from ⟨⟨pw_cell_below (HS.out.trans hw).b HW0.out.1, pw_cell_below (HS.out.trans hw).b HW0.out.2, pw_cell_below (HS.out.trans hw).b hcell⟩, hw⟩)
   have HPL := Aside0.mk (fun (w : World) => plain7_calls w wd h8)
   have HZ := Aside0.mk (And.intro hkx hz)
   obtain ⟨⟨q0, q1, q2⟩, _⟩ := HKP.out wr hs0
   clear hx hz hsl hcell hkx
   by_cases hlt : z < 0
   ·have hzd : decide (z < 0) = true := decide_eq_true hlt
    go_wp2_with fail
    go_region_held3 (fun w' => (w'.cell? ⟨b, j, none⟩ = some (.int .i64 (wd : Int)) ∧ w'.cell? ⟨b, j + 1, none⟩ = some (.slice (some ad) n c) ∧ w'.cell? (ad.add (i * 3)) = some (.slice Ai x.length ci)) ∧ Since wr w')
     (first | exact HKP.out _ hs0 | exact HKP.out _ (Since.refl _).drew | (go_split_ands; first | exact HKP.out _ (by assumption) | exact HKP.out _ (Since.trans (by assumption) (by assumption)) | exact HKP.out _ (Since.trans (by assumption) (Since.ofDrawn (by assumption)))))
     (first
     | (go_at_call 83; ((with_reducible refine (HPL.out _).mono ?_)); rintro e wA ⟨Ap, cp, rfl, hsp, hsA⟩)
     | (go_at_call 82; ((with_reducible refine (HCM.out _ ?s1 _ _ ?s2).mono ?_)); (case s1 => (go_split_ands; first | assumption | exact Since.trans (by assumption) (by assumption))); (case s2 => exact hsp); rintro e wB ⟨rfl, hdB⟩))
    have hsB : Since wr wB := by go_split_ands; first | assumption | exact Since.trans (by assumption) (Since.ofDrawn hdB) | exact Since.trans (Since.trans (by assumption) hsA) (Since.ofDrawn hdB)
    have HSB := Aside0.mk (HS.out.trans hsB)
    clear hsB
    go_wp2
    obtain ⟨k2, hk2⟩ : ∃ k2, k2 = gk - 1 := ⟨_, rfl⟩
    go_roundg k2
    case measure => have := HI.out; omega
    case rel =>
     refine ⟨i + 1, by go_num, ⟨by have := HI.out; omega⟩, ⟨fun q hq hqi => ?_⟩, HSB⟩
     rcases Nat.lt_or_eq_of_le (Nat.le_of_lt_succ hqi) with h | h
     ·exact HB.out q hq h
     ·subst h; rw [HZ.out.1, ← HZ.out.2]; exact decide_eq_true hlt
   ·have hzd : decide (z < 0) = false := decide_eq_false hlt
    go_wp2_with fail
    go_region_held3 (fun w' => (w'.cell? ⟨b, j, none⟩ = some (.int .i64 (wd : Int)) ∧ w'.cell? ⟨b, j + 1, none⟩ = some (.slice (some ad) n c) ∧ w'.cell? (ad.add (i * 3)) = some (.slice Ai x.length ci)) ∧ Since wr w')
     (first | exact HKP.out _ hs0 | exact HKP.out _ (Since.refl _).drew | (go_split_ands; first | exact HKP.out _ (by assumption) | exact HKP.out _ (Since.trans (by assumption) (by assumption)) | exact HKP.out _ (Since.trans (by assumption) (Since.ofDrawn (by assumption)))))
     (first
     | (go_at_call 83; ((with_reducible refine (HPL.out _).mono ?_)); rintro e wA ⟨Ap, cp, rfl, hsp, hsA⟩)
     | (go_at_call 82; ((with_reducible refine (HCM.out _ ?s1 _ _ ?s2).mono ?_)); (case s1 => (go_split_ands; first | assumption | exact Since.trans (by assumption) (by assumption))); (case s2 => exact hsp); rintro e wB ⟨rfl, hdB⟩))
    have hsB : Since wr wB := by go_split_ands; first | assumption | exact Since.trans (by assumption) (Since.ofDrawn hdB) | exact Since.trans (Since.trans (by assumption) hsA) (Since.ofDrawn hdB)
    have HSB := Aside0.mk (HS.out.trans hsB)
    have hcE := HKP.out wB hsB
    obtain ⟨⟨r0, r1, r2⟩, _⟩ := hcE
    clear hsB
    go_wp2_with (first
     | (go_at_call 53; refine (HSM.out _ HSB.out).mono ?_; rintro e wC ⟨rfl, hdC⟩; have HSC := Aside0.mk (HSB.out.trans (Since.ofDrawn hdC)); clear hdC))
    go_ret2
    have e : i = ratL (plainO wd) (keys R) t := (tw_len _ (keys R) i (by omega) HB.out fun h => by rw [HZ.out.1, ← HZ.out.2]; exact decide_eq_false (by omega)).symm
    refine ⟨?_, HSC.out⟩
    rw [← e]
    have hiff := at7_iff HH.out.h8 HH.out.hR t e hik
    rw [HZ.out.1] at hiff
    by_cases hxt : x = t
    ·rw [decide_eq_true hxt, decide_eq_true (hiff.1 hxt)]; rfl
    ·rw [decide_eq_false hxt, decide_eq_false (fun h => hxt (hiff.2 h))]; rfl
  ·have hii : ¬ (i : Int) < (n : Int) := by omega
   have hid : decide (i < n) = false := decide_eq_false hi
   have HKE := Aside0.mk (fun (w : World) (hw : Since W w) => show (w.cell? ⟨b, j, none⟩ = some (.int .i64 (wd : Int)) ∧ w.cell? ⟨b, j + 1, none⟩ = some (.slice A n c)) ∧ Since W w from ⟨⟨pw_cell_below hw.b HW0.out.1, pw_cell_below hw.b HW0.out.2⟩, hw⟩)
   obtain ⟨q0, q1⟩ := (show wr.cell? ⟨b, j, none⟩ = some (.int .i64 (wd : Int)) ∧ wr.cell? ⟨b, j + 1, none⟩ = some (.slice A n c) from ⟨pw_cell_below HS.out.b HW0.out.1, pw_cell_below HS.out.b HW0.out.2⟩)
   go_wp2_with fail
   go_region
   have hsD : Since W wr.drew := HS.out.drew
   obtain ⟨⟨r0, r1⟩, _⟩ := HKE.out _ hsD
   have HSD := Aside0.mk hsD
   clear hsD
   go_wp2
   go_ret2
   have hin : i = n := by have := HI.out; omega
   have e : ratL (plainO wd) (keys R) t = i := tw_len _ (keys R) i (by rw [HKY.out]; omega) HB.out fun h => by rw [HKY.out] at h; omega
   have hno := at7_end HH.out.h8 HH.out.hR t (by rw [e, HKY.out]; exact hin)
   exact ⟨by rw [e, decide_eq_false hno]; rfl, HSD.out⟩
end Go.Proofs.YtcmllllbmgcnlaaGreat.Rl
end
section
namespace Go.Proofs.YtcmllllbmgcnlaaGreat.Rl
open Go.RowKit Go.Lib Go.Shelf Go.Proofs.YtcmllllbmgcnlaaGreat.G Go.Proofs.YtcmllllbmgcnlaaGreat.Tup Go.Proofs.YtcmllllbmgcnlaaGreatW.PrintWords Go.Proofs.YtcmllllbmgcnlaaGreatW.PrintLast Go.Proofs.YtcmllllbmgcnlaaGreatW.PrintMore
set_option linter.unusedVariables false
set_option linter.unusedSimpArgs false
theorem wpList_append_any {P : Program} {w : World} {ops : Array Oper} {rest : List Oper} {o : Oper} {a : Act} {Q : Exit → Act → World → Prop} (hgd : o.guard = none) (s x : Operand) (t : TypeId)
  (ho : o.op = .call { callee := .builtin .append, args := #[s, x], argTypes := #[t, t] })
  (base : Nat) (e : TypeId) (i : TypeInfo) (z : Value) (size bytes : Nat) (ht : P.underlying t = some (.slice e)) (hi : P.info? e = some i) (hz : i.zero = some z)
  (hsize : i.size = size) (hby : i.bytes = bytes) (hzs : z.cells.size = size) (hp : 0 < size)
  (v : Value) (n : Nat) (xs : List Value) (hs : a.eval s = v) (hown : w.ownsRow base e size v n xs)
  (A : Option Addr) (m c : Nat) (news : List Value) (hx : a.eval x = .slice A m c) (hl : news.length = m * size) (hA : A = none → m = 0) (hnews : ∀ ad, A = some ad → ∀ j u, news[j]? = some u → w.cell? (ad.add j) = some u) (h1 : ∀ u ∈ news, u.oneCell' = true)
  (h63 : n + m ≤ maxLen) (hbytes : (n + m) * bytes ≤ 140737488355328) (hbase : base ≤ w.heap.size)
  (h : ∀ v' w', w'.ownsRow base e size v' (n + m) (xs ++ news) → w.grownBy w' v.ownBlock → wpList P ops Q rest (a.put o.dst v') w') : wpList P ops Q (o :: rest) a w := by
 cases A with
 | some ad => exact wpList_append_own _ hgd s x t ho base e i z size bytes ht hi hz hsize hby hzs hp v n xs hs hown ad m c news hx hl (hnews ad rfl) h1 h63 hbytes hbase fun v' w' h2 h3 _ => h v' w' h2 h3
 | none =>
  obtain rfl := hA rfl
  obtain rfl : news = [] := List.length_eq_zero_iff.1 (by omega)
  refine wpList_plain hgd fun K hK => ?_
  have hrun : (Builtin.append_ #[t, t] o.type #[v, .slice none 0 c]).run P w = .ok v w := by
   rcases hown.2 with ⟨rfl, rfl⟩ | ⟨g, cap, cur, rfl, _, _, hnc, _⟩
   ·simp [Builtin.append_, run_underlying ht, sizeOf, typeInfo, hi, Builtin.lenOf, Builtin.firstCells]
   ·simp [Builtin.append_, run_underlying ht, sizeOf, typeInfo, hi, Builtin.lenOf, Builtin.firstCells, hnc, storeCells]
  unfold Oper.wp
  simp [execOp, ho, resolve, invoke, builtin, hs, hx, hrun, Result.andThen]
  refine hK _ _ (h v w (by simpa using hown) ⟨rfl, rfl, rfl, Nat.le_refl _, fun _ _ _ => rfl⟩)
theorem own_reads {W : World} {b e s n c : Nat} {A : Option Addr} {xs : List Value} (h : W.ownsRow b e s (.slice A n c) n xs) : (A = none → n = 0) ∧ ∀ ad, A = some ad → ∀ k u, xs[k]? = some u → W.cell? (ad.add k) = some u := by
 rcases h.2 with ⟨e0, hn⟩ | ⟨g, cap, cur, e0, hb, hg, hle, hmax, hsz, htk⟩
 ·injection e0 with e1 _ _
  exact ⟨fun _ => hn, fun ad h => by rw [e1] at h; cases h⟩
 ·injection e0 with e1 _ _
  subst e1
  refine ⟨(fun h => by cases h), fun ad h k u hk => ?_⟩
  cases h
  rw [Addr.add_lit, Nat.zero_add, Tup.cell_of_heap hg]
  have hk2 : (cur.toList.take (n * s))[k]? = some u := by rw [htk]; exact hk
  rw [List.getElem?_take] at hk2
  split at hk2
  ·simpa using hk2
  ·cases hk2
theorem drop_cells3 {A : Option Addr} {W : World} {us : List Value} {n c q : Nat} (hu : us.length = n * 3) (hc : n ≤ c) (hA : A = none → n = 0) (hcells : ∀ ad, A = some ad → ∀ j u, us[j]? = some u → W.cell? (ad.add j) = some u) (hq : q ≤ n) :
  ((if c = q then A else A.map (·.add (q * 3))) = none → n - q = 0) ∧ ∀ ad, (if c = q then A else A.map (·.add (q * 3))) = some ad → ∀ j u, (us.drop (q * 3))[j]? = some u → W.cell? (ad.add j) = some u := by
 have add_of_add : ∀ (a : Addr) (i j : Nat), (a.add i).add j = a.add (i + j) := by
  intro a i j
  unfold Addr.add
  by_cases hi : i = 0 <;> by_cases hj : j = 0 <;> simp [hi, hj, Nat.add_assoc]
 constructor
 ·intro h
  by_cases e : c = q
  ·omega
  ·rw [if_neg e] at h
   have : A = none := by cases A <;> simp_all
   have := hA this
   omega
 ·intro ad h j u hj
  rw [List.getElem?_drop] at hj
  by_cases e : c = q
  ·have := (List.getElem?_eq_some_iff.1 hj).1
   omega
  ·rw [if_neg e] at h
   cases A with
   | none => simp at h
   | some a0 =>
    simp at h
    subst h
    rw [add_of_add]
    exact hcells a0 rfl _ _ hj
theorem flat3_len (es : List Elt) : (es.flatMap Elt.enc3).length = es.length * 3 := by
 induction es with
 | nil => rfl
 | cons e es ih => rw [List.flatMap_cons, List.length_append, ih]; simp [Elt.enc3]; omega
theorem flat3_split (es : List Elt) (q : Nat) : (es.take q).flatMap Elt.enc3 = (es.flatMap Elt.enc3).take (q * 3) ∧ (es.drop q).flatMap Elt.enc3 = (es.flatMap Elt.enc3).drop (q * 3) := by
 induction es generalizing q with
 | nil => simp
 | cons e es ih =>
  cases q with
  | zero => simp
  | succ q =>
   obtain ⟨h1, h2⟩ := ih q
   have e3 : (q + 1) * 3 = e.enc3.length + q * 3 := by simp [Elt.enc3]; omega
   rw [List.take_succ_cons, List.drop_succ_cons, List.flatMap_cons, List.flatMap_cons, e3, List.take_length_add_append, List.drop_length_add_append, h1, h2]
   exact ⟨rfl, rfl⟩
theorem flat3_one (es : List Elt) : ∀ u ∈ es.flatMap Elt.enc3, u.oneCell' = true := fun u hu => by
 obtain ⟨e, _, he⟩ := List.mem_flatMap.1 hu
 simp only [Elt.enc3, List.mem_cons, List.not_mem_nil, or_false] at he
 rcases he with rfl | rfl | rfl <;> rfl
theorem own_ne {W : World} {b1 e1 s1 n1 b2 e2 s2 n2 : Nat} {v1 v2 : Value} {x1 x2 : List Value} (h1 : W.ownsRow b1 e1 s1 v1 n1 x1) (h2 : W.ownsRow b2 e2 s2 v2 n2 x2) (hne : e1 ≠ e2) : ∀ k, some k = v1.ownBlock → some k ≠ v2.ownBlock := by
 intro k hk hk2
 obtain ⟨c1, g1⟩ := own_typed h1 k hk.symm
 obtain ⟨c2, g2⟩ := own_typed h2 k hk2.symm
 rw [g1] at g2
 injection g2 with g2
 injection g2 with _ g3 _
 exact hne g3
theorem since_grown {W w w' : World} {row : Option Nat} (h : Since W w) (hg : w.grownBy w' row) (hr : ∀ k, row = some k → W.heap.size ≤ k) : Since W w' := ⟨h.b.grown hg h.b.size hr⟩
theorem own_slc {W : World} {b e s n : Nat} {v : Value} {xs : List Value} (h : W.ownsRow b e s v n xs) : ∃ A c, v = .slice A n c := by
 rcases h.2 with ⟨rfl, hn⟩ | ⟨g, cap, cur, rfl, _⟩
 ·subst hn; exact ⟨_, _, rfl⟩
 ·exact ⟨_, _, rfl⟩
structure PAfter (S : Nat → Prop) (b j : Nat) (W w' : World) : Prop where
 k : KeptS (fun k => k = b ∨ S k) W w'
 c : ∀ i, i ≠ j + 1 → ∀ v, W.cell? ⟨b, i, none⟩ = some v → w'.cell? ⟨b, i, none⟩ = some v
 f : ∀ i, b < W.heap.size → w'.frozen? ⟨b, i, none⟩ = W.frozen? ⟨b, i, none⟩
theorem PAfter.since {S : Nat → Prop} {b j : Nat} {W w' : World} (h : Since W w') : PAfter S b j W w' :=
 ⟨.below h.b, fun i _ v hv => pw_cell_below h.b hv, fun i hb => h.b.frozen (p := ⟨b, i, none⟩) hb⟩
theorem PAfter.set {S : Nat → Prop} {b j : Nat} {W w1 : World} (h : Since W w1) (v : Value) : PAfter S b j W (w1.setCell ⟨b, j + 1, none⟩ v) :=
 ⟨(KeptS.below h.b).trans ((KeptS.one (Kept1.set b w1 (j + 1) v)).mono fun k hk => .inl hk), fun i hi v hv => by
  rw [World.cell?_setCell_other _ _ _ _ (fun e => hi (by injection e with _ e _; exact e.symm))]; exact pw_cell_below h.b hv, fun i hb => by rw [World.frozen?_setCell]; exact h.b.frozen (p := ⟨b, i, none⟩) hb⟩
def RPut7 (ok : Nat → Prop) (W : World) (base b j wd : Nat) (A : Option Addr) (c : Nat) (R : List Row) (t : Tp) (n : Int × Int) (e : Ending) (w' : World) : Prop :=
 e = .returned (.tuple #[.bool (putAns wd R t).1, .int .i64 (putAns wd R t).2]) ∧ (∃ A' c' es', Ref7 (Plus ok W.heap.size) w' base b j wd A' c' es' (putTo wd R t n)) ∧ PAfter (fun k => (Value.slice A R.length c).ownBlock = some k) b j W w'
theorem lookF_of {R : List Row} (hn : (keys R).Nodup) {q : Nat} (hq : q < R.length) {t : Tp} (ht : (R[q]).1 = t) : lookF R t = some (R[q]).2 := by
 rw [← ht]; exact lookF_at hn (List.getElem_mem hq)
set_option maxHeartbeats 4000000 in
set_option maxRecDepth 100000 in
theorem rput7_not {ok : Nat → Prop} (W : World) {base b j wd : Nat} {A : Option Addr} {c : Nat} {es : List Elt} {R : List Row} (h : Ref7 ok W base b j wd A c es R) (At : Option Addr) (ct : Nat) (t : Tp) (st : Sl W At ct t) (n : Int × Int)
  (hno : t.length ≠ wd ∨ (t ∈ keys R ∧ ∀ o, lookF R t = some o → betterB n.1 n.2 o.1 o.2 = false) ∨ (t.length = wd ∧ t ∉ keys R ∧ 1024 ≤ R.length)) :
  Calls Tryz.prog 27 #[.pointer (some ⟨b, j, none⟩), .int .i64 n.1, .int .i64 n.2, .slice At t.length ct] W (RPut7 ok W base b j wd A c R t n) := by
 have hA := rat7_calls W h At ct t st
 have h0 := h.c0
 have h1 := h.c1
 have HH := Aside0.mk h
 obtain ⟨n1, n2⟩ := n
 obtain ⟨rn, hrn⟩ : ∃ rn, R.length = rn := ⟨_, rfl⟩
 have HRN := Aside0.mk hrn
 rw [hrn] at h1
 rcases hno with hl | ⟨hm, hnb⟩ | ⟨hl, hm, hf⟩
 ·have ha : Aside0 (putAns wd R t = (false, 14) ∧ putTo wd R t (n1, n2) = R) := ⟨by unfold putAns; rw [if_pos hl], by unfold putTo; rw [if_pos hl]⟩
  have e3 : ((t.length : Int) != (wd : Int)) = true := bne_iff_ne.2 (by omega)
  clear h hA hl
  go_enter Tryz.func27, Tryz.ntmps27
  go_wp2_with fail
  go_ret2
  exact ⟨by rw [ha.out.1]; rfl, ⟨A, c, es, by rw [ha.out.2]; exact HH.out.mono fun k hk => .inl hk⟩, .since (Since.refl _)⟩
 ·have hl : t.length = wd := h.hR.key hm
  obtain ⟨o, ho⟩ := lookF_some hm
  have hnb := hnb o ho
  have ha : Aside0 (putAns wd R t = (false, 0) ∧ putTo wd R t (n1, n2) = R) := ⟨by unfold putAns; rw [if_neg (by omega), if_pos hm], by unfold putTo; rw [if_neg (by omega), ho]; simp only [hnb]; rfl⟩
  obtain ⟨q, hq⟩ : ∃ q, q = ratL (plainO wd) (keys R) t := ⟨_, rfl⟩
  rw [← hq, decide_eq_true hm] at hA
  obtain ⟨hqn, hqe⟩ := (rhas_iff (h.hR.fit h.h8) h.hR.up (by rw [plainO_len]; exact hl) (plainO_rt h.h8)).2 hm
  simp only [← hq] at hqn hqe
  have hqr : q < R.length := by simpa [keys] using hqn
  have hqi : q < rn := by omega
  have hqo := (lookF_of h.hR.nodup hqr (t := t) (by simpa [keys] using hqe)).symm.trans ho
  obtain ⟨ad, Ai, ci, rfl, e0, e1, e2, hsl⟩ := kr_at h.C q hqr
  have hqo' : (R[q]).2 = o := by injection hqo
  rw [hqo'] at e1 e2
  obtain ⟨xl, hxl⟩ : ∃ xl, xl = (R[q]).1.length := ⟨_, rfl⟩
  rw [← hxl] at e0
  obtain ⟨o1, o2⟩ := o
  dsimp only at e1 e2 hnb
  have HQ := Aside0.mk (fun (w : World) (hw : Since W w) => show (w.cell? ⟨b, j, none⟩ = some (.int .i64 (wd : Int)) ∧ w.cell? ⟨b, j + 1, none⟩ = some (.slice (some ad) rn c)) ∧ w.cell? (ad.add (q * 3)) = some (.slice Ai xl ci) ∧ w.cell? ⟨(ad.add (q * 3)).block, (ad.add (q * 3)).off + 1, none⟩ = some (.int .i64 o1) ∧ w.cell? ⟨(ad.add (q * 3)).block, (ad.add (q * 3)).off + 2, none⟩ = some (.int .i64 o2) from ⟨⟨pw_cell_below hw.b h0, pw_cell_below hw.b h1⟩, pw_cell_below hw.b e0, pw_cell_below hw.b e1, pw_cell_below hw.b e2⟩)
  have HNB := Aside0.mk hnb
  have HA := Aside0.mk hA
  have hlI : (t.length : Int) = (wd : Int) := by omega
  have e3 : ((t.length : Int) != (wd : Int)) = false := by simp [hl]
  clear h hA hm hq hqn hqe hqr hqo hqo' hxl hsl ho e0 e1 e2 hl hlI
  rcases (show (n1 < o1 ∧ False) ∨ (¬ n1 < o1 ∧ n1 = o1 ∧ ¬ n2 < o2) ∨ (¬ n1 < o1 ∧ n1 ≠ o1) from by
   have := HNB.out
   simp only [betterB, Bool.or_eq_false_iff, decide_eq_false_iff_not, Bool.and_eq_false_iff] at this
   omega) with ⟨_, hf⟩ | ⟨b1, b2, b3⟩ | ⟨b1, b2⟩
  ·exact hf.elim
  ·have d1 : decide (n1 < o1) = false := decide_eq_false b1
   have d2 : (n1 == o1) = true := by simp [b2]
   have d3 : decide (n2 < o2) = false := decide_eq_false b3
   clear b1 b3
   go_enter Tryz.func27, Tryz.ntmps27
   go_wp2_with (first
    | (go_at_call 56; refine HA.out.mono ?_; clear HA; rintro e w1 ⟨rfl, hs1⟩; obtain ⟨⟨r0, r1⟩, r2, r3, r4⟩ := HQ.out w1 hs1; have HS1 := Aside0.mk hs1; clear hs1))
   go_ret2
   exact ⟨by rw [ha.out.1]; rfl, ⟨_, c, es, by rw [ha.out.2]; exact (HH.out.since (HS1.out.alloc _)).mono fun k hk => .inl hk⟩, .since (HS1.out.alloc _)⟩
  ·have d1 : decide (n1 < o1) = false := decide_eq_false b1
   have d2 : (n1 == o1) = false := by simp [b2]
   clear b1
   go_enter Tryz.func27, Tryz.ntmps27
   go_wp2_with (first
    | (go_at_call 56; refine HA.out.mono ?_; clear HA; rintro e w1 ⟨rfl, hs1⟩; obtain ⟨⟨r0, r1⟩, r2, r3, r4⟩ := HQ.out w1 hs1; have HS1 := Aside0.mk hs1; clear hs1))
   go_ret2
   exact ⟨by rw [ha.out.1]; rfl, ⟨_, c, es, by rw [ha.out.2]; exact (HH.out.since (HS1.out.alloc _)).mono fun k hk => .inl hk⟩, .since (HS1.out.alloc _)⟩
 ·have ha : Aside0 (putAns wd R t = (false, 18) ∧ putTo wd R t (n1, n2) = R) := ⟨by unfold putAns; rw [if_neg (by omega), if_neg hm, if_pos hf], by unfold putTo; rw [if_neg (by omega), lookF_none.2 hm]; simp only [hf, if_true]⟩
  rw [decide_eq_false hm] at hA
  have HA := Aside0.mk hA
  have e3 : ((t.length : Int) != (wd : Int)) = false := by simp [hl]
  have hd : decide ((rn : Int) ≥ 1024) = true := decide_eq_true (by omega)
  have hd2 : (rn : Int) ≥ 1024 := by omega
  clear h hA hl hm hf
  go_enter Tryz.func27, Tryz.ntmps27
  go_wp2_with (first
   | (go_at_call 56; refine HA.out.mono ?_; clear HA; rintro e w1 ⟨rfl, hs1⟩; have r1 := pw_cell_below hs1.b h1; have HS1 := Aside0.mk hs1; clear hs1))
  go_ret2
  exact ⟨by rw [ha.out.1]; rfl, ⟨A, c, es, by rw [ha.out.2]; exact (HH.out.since HS1.out).mono fun k hk => .inl hk⟩, .since HS1.out⟩
theorem rput7_close {ok : Nat → Prop} {W wb wd : World} {base b j wn : Nat} {A : Option Addr} {c : Nat} {es : List Elt} {R : List Row} (h : Ref7 ok W base b j wn A c es R) (hbb : ¬ ok b) (hba : base ≤ W.heap.size) {t : Tp} {n : Int × Int} (hl : t.length = wn) (hm : t ∉ keys R) (hf : R.length < 1024) (hn1 : rightB n.1 = true) (hn2 : rightB n.2 = true)
  {q rn g cap B : Nat} {A2 : Option Addr} {c2 : Nat} (hrn : R.length = rn) (hq : q = idx (plainO wn) (keys R) t) (hd : Since W wd) (hB : W.heap.size ≤ B)
  (hown2 : wb.ownsRow B 3 1 (.slice A2 wn c2) wn (t.map (Value.int .i64))) (hk2 : ∀ k, some k = (Value.slice A2 wn c2).ownBlock → wd.heap[k]? = wb.heap[k]?)
  (hown4 : wd.ownsRow W.heap.size 61 3 (.slice (some ⟨g, 0, none⟩) (rn + 1) cap) (rn + 1) ((es.flatMap Elt.enc3).take (q * 3) ++ [.slice A2 wn c2, .int .i64 n.1, .int .i64 n.2] ++ (es.flatMap Elt.enc3).drop (q * 3))) :
  (∃ A' c' es', Ref7 (Plus ok W.heap.size) (wd.setCell ⟨b, j + 1, none⟩ (.slice (some ⟨g, 0, none⟩) (rn + 1) cap)) base b j wn A' c' es' (insRow (plainO wn) t n R)) ∧ PAfter (fun k => (Value.slice A R.length c).ownBlock = some k) b j W (wd.setCell ⟨b, j + 1, none⟩ (.slice (some ⟨g, 0, none⟩) (rn + 1) cap)) := by
 have hblt := World.block_lt_of_cell? W _ h.c0
 have hpb : ¬ Plus ok W.heap.size b := plus_not hbb hblt
 have hil : (insRow (plainO wn) t n R).length = rn + 1 := by rw [insRow_len, hrn]
 have hne : (⟨b, j, none⟩ : Addr) ≠ ⟨b, j + 1, none⟩ := fun e => by injection e; omega
 have h1 := pw_cell_below hd.b h.c1
 have hst : ∀ k, Plus ok W.heap.size k → (wd.setCell ⟨b, j + 1, none⟩ (.slice (some ⟨g, 0, none⟩) (rn + 1) cap)).heap[k]? = wd.heap[k]? := fun k hk => Below.heap_setCell _ _ _ _ (fun e : k = b => hpb (e ▸ hk))
 obtain ⟨E, hE⟩ : ∃ E : Elt, E = ⟨A2, c2, t, n⟩ := ⟨_, rfl⟩
 have hEv : E.v = .slice A2 wn c2 := by rw [hE]; show Value.slice A2 t.length c2 = _; rw [hl]
 have hflat : (es.flatMap Elt.enc3).take (q * 3) ++ [.slice A2 wn c2, .int .i64 n.1, .int .i64 n.2] ++ (es.flatMap Elt.enc3).drop (q * 3) = (es.take q ++ E :: es.drop q).flatMap Elt.enc3 := by
  rw [List.flatMap_append, List.flatMap_cons, (flat3_split es q).1, (flat3_split es q).2, List.append_assoc]
  congr 2
  show _ = [E.v, .int .i64 E.n.1, .int .i64 E.n.2]
  rw [hEv, hE]
 rw [hflat] at hown4
 have hge2 := own_ge hown2
 have hge4 := own_ge hown4
 have hEl : ∀ e ∈ es.take q ++ E :: es.drop q, e = E ∨ e ∈ es := fun e he => by
  rcases List.mem_append.1 he with he | he
  ·exact .inr (List.mem_of_mem_take he)
  ·rcases List.mem_cons.1 he with he | he
   ·exact .inl he
   ·exact .inr (List.mem_of_mem_drop he)
 have hEok : ∀ e ∈ es.take q ++ E :: es.drop q, ∀ k, e.v.ownBlock = some k → Plus ok W.heap.size k := fun e he k hk => by
  rcases hEl e he with rfl | he
  ·rw [hEv] at hk
   have := hge2 k hk.symm
   exact .inr (by omega)
  ·exact .inl (h.okE e he k hk)
 have h4ok : ∀ k, (Value.slice (some ⟨g, 0, none⟩) (rn + 1) cap).ownBlock = some k → Plus ok W.heap.size k := fun k hk => .inr (hge4 k hk.symm)
 refine ⟨⟨some ⟨g, 0, none⟩, cap, es.take q ++ E :: es.drop q, ⟨?_, ?_, ?_, ?_, ?_, ?_, hEok, ?_, h.h8, h.hR.ins h.h8 hm hl hf hn1 hn2⟩⟩, .set hd _⟩
 ·rw [World.cell?_setCell_other _ _ _ _ (fun e => hne e.symm)]; exact pw_cell_below hd.b h.c0
 ·rw [hil]; exact World.cell?_setCell_same _ _ _ h1
 ·rw [World.frozen?_setCell]; exact (hd.b.frozen (p := ⟨b, j + 1, none⟩) hblt).trans h.fz
 ·rw [hil]
  exact own_move (own_weaken hown4 hba) fun k hk => hst k (h4ok k hk)
 ·rw [hil]; exact h4ok
 ·intro e he
  have hmv : e.At wd base := by
   rcases hEl e he with rfl | he'
   ·unfold Elt.At
    rw [hEv, hE]
    show wd.ownsRow base 3 1 (.slice A2 wn c2) t.length (t.map (Value.int .i64))
    rw [hl]
    exact own_weaken (own_move hown2 fun k hk => hk2 k hk.symm) (by omega)
   ·exact own_move (h.el e he') fun k hk => hd.b.block k (Tup.own_lt (h.el e he') k hk.symm)
  exact own_move hmv fun k hk => hst k (hEok e he k hk)
 ·rw [List.map_append, List.map_cons, List.map_take, List.map_drop, h.row]
  unfold insRow
  rw [← hq, hE]
  rfl
set_option maxHeartbeats 8000000 in
set_option maxRecDepth 100000 in
theorem rput7_ins {ok : Nat → Prop} (W : World) {base b j wd : Nat} {A : Option Addr} {c : Nat} {es : List Elt} {R : List Row} (h : Ref7 ok W base b j wd A c es R) (hbb : ¬ ok b) (hba : base ≤ W.heap.size) (At : Option Addr) (ct : Nat) (t : Tp) (st : Sl W At ct t) (n : Int × Int) (hn1 : rightB n.1 = true) (hn2 : rightB n.2 = true)
  (hl : t.length = wd) (hm : t ∉ keys R) (hf : R.length < 1024) :
  Calls Tryz.prog 27 #[.pointer (some ⟨b, j, none⟩), .int .i64 n.1, .int .i64 n.2, .slice At t.length ct] W (RPut7 ok W base b j wd A c R t n) := by
 have hA := rat7_calls W h At ct t st
 have ha : Aside0 (putAns wd R t = (true, 0) ∧ putTo wd R t n = insRow (plainO wd) t n R) := ⟨by unfold putAns; rw [if_neg (by omega), if_neg hm, if_neg (by omega)], by unfold putTo; rw [if_neg (by omega), lookF_none.2 hm]; simp only [show ¬ 1024 ≤ R.length from by omega, if_false]⟩
 rw [decide_eq_false hm, ratL_idx (h.hR.fit h.h8) ⟨by rw [plainO_len]; exact hl, plainO_rt h.h8⟩] at hA
 obtain ⟨q, hq⟩ : ∃ q, q = idx (plainO wd) (keys R) t := ⟨_, rfl⟩
 rw [← hq] at hA
 obtain ⟨rn, hrn⟩ : ∃ rn, R.length = rn := ⟨_, rfl⟩
 have hqn : q ≤ rn := by rw [hq]; have := idx_le (plainO wd) (keys R) t; rw [show (keys R).length = R.length from by simp [keys]] at this; omega
 have hlc : rn ≤ c := by have := h.sl; omega
 have hqc : q ≤ c := by omega
 have h0 := h.c0
 have h1 := h.c1
 have hfz := h.fz
 rw [hrn] at h1
 have h8 := h.h8
 obtain ⟨i0, hi, hz0, hz1, hz2⟩ := info_parts infoW
 obtain ⟨i1, hi', hz0', hz1', hz2'⟩ := info_parts (show (Tryz.prog.info? 3).map (fun i => (i.zero, i.size, i.bytes)) = some (some (.int .i64 0), 1, 8) by kernel_rfl)
 have HI0 := Aside0.mk (And.intro hi (And.intro hz0 (And.intro hz1 hz2)))
 have HI1 := Aside0.mk (And.intro hi' (And.intro hz0' (And.intro hz1' hz2')))
 obtain ⟨hAn, hcel⟩ := own_reads h.own
 rw [hrn] at hAn
 obtain ⟨us, hus⟩ : ∃ us, us = es.flatMap Elt.enc3 := ⟨_, rfl⟩
 rw [← hus] at hcel
 have hul : us.length = rn * 3 := by rw [hus, flat3_len, h.len, hrn]
 have hone : ∀ u ∈ us, u.oneCell' = true := by rw [hus]; exact flat3_one es
 obtain ⟨ts, hEt, htl, htA, htc⟩ := rows_out (d := Kd.int .i64) rfl (Kd.C_F (Kd.heap_int .i64) st.C)
 have hts := els_ints hEt
 have HH := Aside0.mk h
 have HST := Aside0.mk st
 have HQ := Aside0.mk hq
 have HN := Aside0.mk hrn
 have HUS := Aside0.mk hus
 have hTake : ∀ w, Since W w → ∀ ad, A = some ad → ∀ i u, (us.take (q * 3))[i]? = some u → w.cell? (ad.add i) = some u := fun w hw ad he i u hj => by
  rw [List.getElem?_take] at hj
  split at hj
  ·exact pw_cell_below hw.b (hcel ad he i u hj)
  ·cases hj
 have hDr := fun (w : World) (hw : Since W w) => drop_cells3 (W := w) (q := q) hul hlc hAn (fun ad he i u hj => pw_cell_below hw.b (hcel ad he i u hj)) hqn
 have hTs : ∀ w, Since W w → ∀ ad, At = some ad → ∀ i u, (t.map (Value.int .i64))[i]? = some u → w.cell? (ad.add i) = some u := fun w hw ad he i u hj => pw_cell_below hw.b (htc ad he i u (by rw [hts]; exact hj))
 have HU := Aside0.mk (And.intro hul (And.intro hAn hTake))
 have HDR := Aside0.mk hDr
 have HTS := Aside0.mk (And.intro hTs htA)
 have HTL := Aside0.mk hl
 have H1 := Aside0.mk h1
 have HA := Aside0.mk hA
 have hn2k : rn < 1024 := by omega
 have hd : decide ((rn : Int) ≥ 1024) = false := decide_eq_false (by omega)
 have hd2 : ¬ (rn : Int) ≥ 1024 := by omega
 have HON := Aside0.mk hone
 have HMF := Aside0.mk (And.intro hm (And.intro hbb (And.intro hba (And.intro hn1 hn2))))
 have e3 : ((t.length : Int) != (wd : Int)) = false := by simp [hl]
 have HA := HA.out
 obtain ⟨n1, n2⟩ := n
 dsimp only
 clear h st hq hrn hA hul hAn hcel hEt htl htA htc hts hTake hDr hTs hi hz0 hz1 hz2 hi' hz0' hz1' hz2' hone hus hm hbb hba hf hn1 hn2
 rw [hl] at HA ⊢
 clear hl e3
 have e3 : ((wd : Int) != (wd : Int)) = false := by simp
 go_enter Tryz.func27, Tryz.ntmps27
 go_wp2_with (first
  | (go_at_call 56; refine HA.mono ?_; clear HA; rintro e w1 ⟨rfl, hs1⟩; have r1 := pw_cell_below hs1.b H1.out; have HS1 := Aside0.mk hs1; clear hs1)
  | ((with_reducible refine gate_builtin (b := .append) (xs := #[.const (.slice none 0 0), .tmp 78]) rfl ?_); go_loud (refine wpList_append_any rfl _ _ 46 rfl W.heap.size 61 i0 (.agg #[.slice none 0 0, .int .i64 0, .int .i64 0]) 3 40 Tryz.underlying46 HI0.out.1 HI0.out.2.1 HI0.out.2.2.1 HI0.out.2.2.2 rfl (by decide) (.slice none 0 0) 0 [] rfl (World.ownsRow_nil _ _ _ _) A q c (us.take (q * 3)) rfl (by have := HU.out.1; simp; omega) (fun h => by have := HU.out.2.1 h; omega) (HU.out.2.2 _ HS1.out) (fun u hu => HON.out u (List.mem_of_mem_take hu)) (by unfold maxLen; omega) (by omega) HS1.out.b.size ?_; intro v1 wa hown1 hg1; simp only [Nat.zero_add, List.nil_append] at hown1; have S1 := Aside0.mk (since_grown (W := W) HS1.out hg1 (fun k e => by simp [Value.ownBlock] at e)); have O1 := Aside0.mk hown1; clear hown1 hg1))
  | ((with_reducible refine gate_builtin (b := .append) (xs := #[.const (.slice none 0 0), .tmp 81]) rfl ?_); go_loud (refine wpList_append_any rfl _ _ 23 rfl wa.heap.size 3 i1 (.int .i64 0) 1 8 Tryz.underlying23 HI1.out.1 HI1.out.2.1 HI1.out.2.2.1 HI1.out.2.2.2 rfl (by decide) (.slice none 0 0) 0 [] rfl (World.ownsRow_nil _ _ _ _) At wd ct (t.map (Value.int .i64)) rfl (by have := HTL.out; simp; omega) (fun h => by have := HTS.out.2 h; have := HTL.out; omega) (HTS.out.1 _ S1.out) (fun u hu => by obtain ⟨z, _, rfl⟩ := List.mem_map.1 hu; rfl) (by unfold maxLen; omega) (by omega) (Nat.le_refl _) ?_; intro v2 wb hown2 hg2; simp only [Nat.zero_add, List.nil_append] at hown2; have S2 := Aside0.mk (since_grown S1.out hg2 (fun k e => by simp [Value.ownBlock] at e)); have O1b := Aside0.mk (own_move (w1 := wb) O1.out (fun k hk => hg2.block k (own_lt O1.out k hk.symm) (by simp [Value.ownBlock]))); have O2 := Aside0.mk hown2; obtain ⟨A2, c2, hv2⟩ := own_slc hown2; subst hv2; clear hown2 hg2))
  | ((with_reducible refine gate_builtin (b := .append) (xs := #[.tmp 80, .tmp 86]) rfl ?_); go_loud (refine wpList_append_any rfl _ _ 46 rfl W.heap.size 61 i0 (.agg #[.slice none 0 0, .int .i64 0, .int .i64 0]) 3 40 Tryz.underlying46 HI0.out.1 HI0.out.2.1 HI0.out.2.2.1 HI0.out.2.2.2 rfl (by decide) v1 q (us.take (q * 3)) rfl (O1b.out.alloc _) (some ⟨wb.heap.size, 0, none⟩) 1 1 [.slice A2 wd c2, .int .i64 n1, .int .i64 n2] rfl rfl (fun h => by cases h) (fun ad he i u hj => by cases he; rw [Addr.add_lit, Nat.zero_add, Tup.cell_of_heap (heap_alloc_new wb _)]; rw [← hj]; simp) (by simp [Value.oneCell']) (by unfold maxLen; omega) (by omega) (by have := S2.out.b.size; simp; omega) ?_; intro v3 wc hown3 hg3; have S3 := Aside0.mk (since_grown (S2.out.alloc (.cells #[.slice A2 wd c2, .int .i64 n1, .int .i64 n2] 61)) hg3 (fun k e => own_ge O1b.out k e.symm)); have K3 := Aside0.mk (fun k (hk : some k = (Value.slice A2 wd c2).ownBlock) => (hg3.block k (by have := own_lt O2.out k hk; simp; omega) (own_ne O2.out O1b.out (by decide) k hk)).trans (Below.heap_alloc wb (.cells #[.slice A2 wd c2, .int .i64 n1, .int .i64 n2] 61) k (own_lt O2.out k hk))); have O3 := Aside0.mk hown3; have h1c := pw_cell_below S3.out.b H1.out; clear hown3 hg3))
  | ((with_reducible refine gate_builtin (b := .append) (xs := #[.tmp 89, .tmp 95]) rfl ?_); go_loud (refine wpList_append_any rfl _ _ 46 rfl W.heap.size 61 i0 (.agg #[.slice none 0 0, .int .i64 0, .int .i64 0]) 3 40 Tryz.underlying46 HI0.out.1 HI0.out.2.1 HI0.out.2.2.1 HI0.out.2.2.2 rfl (by decide) v3 (q + 1) (us.take (q * 3) ++ [.slice A2 wd c2, .int .i64 n1, .int .i64 n2]) rfl O3.out (if c = q then A else Option.map (fun x => x.add (q * 3)) A) (rn - q) (c - q) (us.drop (q * 3)) rfl (by rw [List.length_drop, HU.out.1]; omega) (HDR.out _ S3.out).1 (HDR.out _ S3.out).2 (fun u hu => HON.out u (List.mem_of_mem_drop hu)) (by unfold maxLen; omega) (by omega) S3.out.b.size ?_; intro v4 wd4 hown4 hg4; rw [show q + 1 + (rn - q) = rn + 1 from by omega] at hown4; have S4 := Aside0.mk (since_grown S3.out hg4 (fun k e => own_ge O3.out k e.symm)); have K4 := Aside0.mk (fun k (hk : some k = (Value.slice A2 wd c2).ownBlock) => ((hg4.block k (by have e := K3.out k hk; have l := own_lt O2.out k hk; rw [Array.getElem?_eq_getElem l] at e; exact (Array.getElem?_eq_some_iff.1 e).1) (own_ne (own_move (w1 := wc) O2.out (fun k hk => K3.out k hk.symm)) O3.out (by decide) k hk)).trans (K3.out k hk))); obtain ⟨g4, cap4, hv4⟩ := ownsRow_succ hown4; subst hv4; have O4 := Aside0.mk hown4; have h1d := pw_cell_below S4.out.b H1.out; have hfd := S4.out.b.frozen (p := ⟨b, j + 1, none⟩) (World.block_lt_of_cell? W _ H1.out); rw [hfz] at hfd; clear hown4 hg4)))
 all_goals
  go_ret2
  obtain ⟨hR, hP⟩ := rput7_close (n := (n1, n2)) HH.out HMF.out.2.1 HMF.out.2.2.1 HTL.out HMF.out.1 (by have := HN.out; omega) HMF.out.2.2.2.1 HMF.out.2.2.2.2 HN.out HQ.out S4.out S1.out.b.size O2.out K4.out (by rw [← HUS.out]; exact O4.out)
  exact ⟨by rw [ha.out.1]; rfl, by rw [ha.out.2]; exact hR, ⟨hP.k.mono fun k hk => by cases A <;> simpa [Value.ownBlock] using hk, hP.c, hP.f⟩⟩
end Go.Proofs.YtcmllllbmgcnlaaGreat.Rl
end
section
namespace Go.Proofs.YtcmllllbmgcnlaaGreat.Rl
open Go.RowKit Go.Lib Go.Shelf Go.Proofs.YtcmllllbmgcnlaaGreat.G Go.Proofs.YtcmllllbmgcnlaaGreat.Tup Go.Proofs.YtcmllllbmgcnlaaGreatW.PrintWords Go.Proofs.YtcmllllbmgcnlaaGreatW.PrintLast Go.Proofs.YtcmllllbmgcnlaaGreatW.PrintMore
open Go.Proofs.YtcmllllbmgcnlaaGreat.Ch (rwrongS)
set_option linter.unusedVariables false
set_option linter.unusedSimpArgs false
set_option maxHeartbeats 2000000 in
set_option maxRecDepth 100000 in
theorem rnew7_no (W : World) (width : Int) (A0 : Option Addr) (c0 : Nat) (l : List Int) (h0 : Sl W A0 c0 l) (ho : rwrongS width l ≠ 0) :
  Calls Tryz.prog 26 #[.int .i64 width, .slice A0 l.length c0] W fun e w' => e = .returned (.tuple #[.agg #[.int .i64 0, .slice none 0 0], .int .i64 (rwrongS width l)]) ∧ Below W.heap.size W w' := by
 have hb := below_alloc (Below.refl W.heap.size W) (.cells #[.int .i64 0, .slice none 0 0] 64)
 have hR := Go.Proofs.YtcmllllbmgcnlaaGreat.Ch.rwrong_calls width A0 c0 l _ (h0.below hb)
 obtain ⟨z, hz⟩ : ∃ z, z = rwrongS width l := ⟨_, rfl⟩
 rw [← hz] at hR ho ⊢
 have hne : (z != 0) = true := by simpa using ho
 have HB := Aside0.mk hb
 clear ho h0 hb hz
 go_enter Tryz.func26, Tryz.ntmps26
 go_wp2_with (first
  | (go_at_call 55; refine hR.mono ?_; clear hR; rintro e w1 ⟨rfl, hb1⟩; have HB1 := Aside0.mk (below_then HB.out HB.out.size hb1); have hx := hb1.block W.heap.size (by simp); have hx' := hx.trans (heap_alloc_new _ _); have HK := Aside0.mk hx'; have k0 := (Tup.cell_of_heap hx' 0).trans rfl; have k1 := (Tup.cell_of_heap hx' 1).trans rfl; have f0 := free_of_heap hx' 0; have f1 := free_of_heap hx' 1; clear hx hx' hb1))
 exact bodyPost_ret (v := .tuple #[.agg #[.int .i64 0, .slice none 0 0], .int .i64 z]) (by simp [results, Tryz.results26, go_sem, k0, k1]) rfl ⟨rfl, (HB1.out.setCell (p := ⟨W.heap.size, 0, none⟩) (Nat.le_refl _) _).setCell (p := ⟨W.heap.size, 1, none⟩) (Nat.le_refl _) _⟩
set_option maxHeartbeats 2000000 in
set_option maxRecDepth 100000 in
theorem rnew7_yes (W : World) (width : Int) (A0 : Option Addr) (c0 : Nat) (l : List Int) (h0 : Sl W A0 c0 l) (ho : rwrongS width l = 0) :
  Calls Tryz.prog 26 #[.int .i64 width, .slice A0 l.length c0] W fun e w' => e = .returned (.tuple #[.agg #[.int .i64 width, .slice none 0 0], .int .i64 0]) ∧ Below W.heap.size W w' := by
 have hb := below_alloc (Below.refl W.heap.size W) (.cells #[.int .i64 0, .slice none 0 0] 64)
 have hR := Go.Proofs.YtcmllllbmgcnlaaGreat.Ch.rwrong_calls width A0 c0 l _ (h0.below hb)
 rw [ho] at hR
 have HB := Aside0.mk hb
 clear ho h0 hb
 go_enter Tryz.func26, Tryz.ntmps26
 go_wp2_with (first
  | (go_at_call 55; refine hR.mono ?_; clear hR; rintro e w1 ⟨rfl, hb1⟩; have HB1 := Aside0.mk (below_then HB.out HB.out.size hb1); have hx := hb1.block W.heap.size (by simp); have hx' := hx.trans (heap_alloc_new _ _); have HK := Aside0.mk hx'; have k0 := (Tup.cell_of_heap hx' 0).trans rfl; have k1 := (Tup.cell_of_heap hx' 1).trans rfl; have f0 := free_of_heap hx' 0; have f1 := free_of_heap hx' 1; clear hx hx' hb1))
 exact bodyPost_ret (v := .tuple #[.agg #[.int .i64 width, .slice none 0 0], .int .i64 0]) (by simp [results, Tryz.results26, go_sem, k0, k1]) rfl ⟨rfl, (HB1.out.setCell (p := ⟨W.heap.size, 0, none⟩) (Nat.le_refl _) _).setCell (p := ⟨W.heap.size, 1, none⟩) (Nat.le_refl _) _⟩
end Go.Proofs.YtcmllllbmgcnlaaGreat.Rl
end
