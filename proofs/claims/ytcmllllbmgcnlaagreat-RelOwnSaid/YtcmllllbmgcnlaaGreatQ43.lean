/- Own texts, joined and cut to what the claim stands on: RlRefNew, RlOwnI, RlOwn, RlOwn2. -/
import Derived.Deep.RegionHeld3
import Derived.Test.YtcmllllbmgcnlaaGreatQ32
import Derived.Test.YtcmllllbmgcnlaaGreatQ31
import Derived.Test.YtcmllllbmgcnlaaGreatQ42
import Derived.Test.YtcmllllbmgcnlaaGreatQ39
import Derived.Test.YtcmllllbmgcnlaaGreatQ34
section
namespace Go.Proofs.YtcmllllbmgcnlaaGreat.Rl
open Go.RowKit Go.Lib Go.Shelf Go.Proofs.YtcmllllbmgcnlaaGreat.G Go.Proofs.YtcmllllbmgcnlaaGreat.Tup Go.Proofs.YtcmllllbmgcnlaaGreatW.PrintWords Go.Proofs.YtcmllllbmgcnlaaGreatW.PrintLast Go.Proofs.YtcmllllbmgcnlaaGreatW.PrintMore
open Go.Proofs.YtcmllllbmgcnlaaGreat.Ch (rwrongS)
set_option linter.unusedVariables false
set_option linter.unusedSimpArgs false
set_option maxHeartbeats 2000000 in
set_option maxRecDepth 100000 in
theorem rnew7_no (W : World) (width : Int) (A0 : Option Addr) (c0 : Nat) (l : List Int) (h0 : Sl W A0 c0 l) (ho : rwrongS width l ≠ 0) :
    Calls Tryz.prog 26 #[.int .i64 width, .slice A0 l.length c0] W fun e w' => e = .returned (.tuple #[.agg #[.int .i64 0, .slice none 0 0], .int .i64 (rwrongS width l)]) ∧ Below W.heap.size W w' := by
  have hb := below_alloc (Below.refl W.heap.size W) (.cells #[.int .i64 0, .slice none 0 0] 64)
  have hR := Go.Proofs.YtcmllllbmgcnlaaGreat.Ch.rwrong_calls width A0 c0 l _ (h0.below hb)
  obtain ⟨z, hz⟩ : ∃ z, z = rwrongS width l := ⟨_, rfl⟩
  rw [← hz] at hR ho ⊢
  have hne : (z != 0) = true := by simpa using ho
  have HB := Aside0.mk hb
  clear ho h0 hb hz
  go_enter Tryz.func26, Tryz.ntmps26
  go_wp2_with (first
    | (go_at_call 55; refine hR.mono ?_; clear hR; rintro e w1 ⟨rfl, hb1⟩; have HB1 := Aside0.mk (below_then HB.out HB.out.size hb1); have hx := hb1.block W.heap.size (by simp); have hx' := hx.trans (heap_alloc_new _ _); have HK := Aside0.mk hx'; have k0 := (Tup.cell_of_heap hx' 0).trans rfl; have k1 := (Tup.cell_of_heap hx' 1).trans rfl; have f0 := free_of_heap hx' 0; have f1 := free_of_heap hx' 1; clear hx hx' hb1))
  exact bodyPost_ret (v := .tuple #[.agg #[.int .i64 0, .slice none 0 0], .int .i64 z]) (by simp [results, Tryz.results26, go_sem, k0, k1]) rfl ⟨rfl, (HB1.out.setCell (p := ⟨W.heap.size, 0, none⟩) (Nat.le_refl _) _).setCell (p := ⟨W.heap.size, 1, none⟩) (Nat.le_refl _) _⟩
set_option maxHeartbeats 2000000 in
set_option maxRecDepth 100000 in
theorem rnew7_yes (W : World) (width : Int) (A0 : Option Addr) (c0 : Nat) (l : List Int) (h0 : Sl W A0 c0 l) (ho : rwrongS width l = 0) :
    Calls Tryz.prog 26 #[.int .i64 width, .slice A0 l.length c0] W fun e w' => e = .returned (.tuple #[.agg #[.int .i64 width, .slice none 0 0], .int .i64 0]) ∧ Below W.heap.size W w' := by
  have hb := below_alloc (Below.refl W.heap.size W) (.cells #[.int .i64 0, .slice none 0 0] 64)
  have hR := Go.Proofs.YtcmllllbmgcnlaaGreat.Ch.rwrong_calls width A0 c0 l _ (h0.below hb)
  rw [ho] at hR
  have HB := Aside0.mk hb
  clear ho h0 hb
  go_enter Tryz.func26, Tryz.ntmps26
  go_wp2_with (first
    | (go_at_call 55; refine hR.mono ?_; clear hR; rintro e w1 ⟨rfl, hb1⟩; have HB1 := Aside0.mk (below_then HB.out HB.out.size hb1); have hx := hb1.block W.heap.size (by simp); have hx' := hx.trans (heap_alloc_new _ _); have HK := Aside0.mk hx'; have k0 := (Tup.cell_of_heap hx' 0).trans rfl; have k1 := (Tup.cell_of_heap hx' 1).trans rfl; have f0 := free_of_heap hx' 0; have f1 := free_of_heap hx' 1; clear hx hx' hb1))
  exact bodyPost_ret (v := .tuple #[.agg #[.int .i64 width, .slice none 0 0], .int .i64 0]) (by simp [results, Tryz.results26, go_sem, k0, k1]) rfl ⟨rfl, (HB1.out.setCell (p := ⟨W.heap.size, 0, none⟩) (Nat.le_refl _) _).setCell (p := ⟨W.heap.size, 1, none⟩) (Nat.le_refl _) _⟩
end Go.Proofs.YtcmllllbmgcnlaaGreat.Rl
end
section
namespace Go.Proofs.YtcmllllbmgcnlaaGreat.Rl
open Go.RowKit Go.Lib Go.Shelf Go.Proofs.YtcmllllbmgcnlaaGreat.G Go.Proofs.YtcmllllbmgcnlaaGreat.Tup Go.Proofs.YtcmllllbmgcnlaaGreatW.PrintWords Go.Proofs.YtcmllllbmgcnlaaGreatW.PrintLast Go.Proofs.YtcmllllbmgcnlaaGreatW.PrintMore
open Go.Proofs.YtcmllllbmgcnlaaGreat.Ch (rwrongS)
set_option linter.unusedVariables false
set_option linter.unusedSimpArgs false
theorem Ref7.bound {ok : Nat → Prop} {W : World} {base b j wd : Nat} {A : Option Addr} {c : Nat} {es : List Elt} {R : List Row} (h : Ref7 ok W base b j wd A c es R) : Ref7 (fun k => ok k ∧ k < W.heap.size) W base b j wd A c es R :=
  ⟨h.c0, h.c1, h.fz, h.own, fun k hk => ⟨h.ok0 k hk, Tup.own_lt h.own k hk.symm⟩, h.el, fun e he k hk => ⟨h.okE e he k hk, Tup.own_lt (h.el e he) k hk.symm⟩, h.row, h.h8, h.hR⟩
theorem Ref7.row_step {ok : Nat → Prop} {W W1 : World} {base b j wd : Nat} {A : Option Addr} {c : Nat} {es : List Elt} {R : List Row} (h : Ref7 ok W base b j wd A c es R) (hm : ∀ k, ok k → k < W.heap.size → W1.heap[k]? = W.heap[k]?) (hb : W1.heap[b]? = W.heap[b]?) : Ref7 ok W1 base b j wd A c es R :=
  h.step hm (World.cell?_of_block hb) (World.cell?_of_block hb) (by simp only [World.frozen?, hb])
theorem rput7_less {ok : Nat → Prop} (W : World) {base b j wd : Nat} {A : Option Addr} {c : Nat} {es : List Elt} {R : List Row} (h : Ref7 ok W base b j wd A c es R) (hbb : ¬ ok b) (hba : base ≤ W.heap.size) (At : Option Addr) (ct : Nat) (t : Tp) (st : Sl W At ct t) (n : Int × Int) (hn1 : rightB n.1 = true) (hn2 : rightB n.2 = true)
    (hnb : ∀ o, lookF R t = some o → betterB n.1 n.2 o.1 o.2 = false) :
    Calls Tryz.prog 27 #[.pointer (some ⟨b, j, none⟩), .int .i64 n.1, .int .i64 n.2, .slice At t.length ct] W (RPut7 ok W base b j wd A c R t n) := by
  by_cases hl : t.length = wd
  · by_cases hm : t ∈ keys R
    · exact rput7_not W h At ct t st n (.inr (.inl ⟨hm, hnb⟩))
    · by_cases hf : R.length < 1024
      · exact rput7_ins W h hbb hba At ct t st n hn1 hn2 hl hm hf
      · exact rput7_not W h At ct t st n (.inr (.inr ⟨hl, hm, by omega⟩))
  · exact rput7_not W h At ct t st n (.inl hl)
structure OwnI (W : World) (br b wd m : Nat) (bss : List Nat) (os : List Tp) (ex : Nat → Prop) (R1 R2 : List Row) (w : World) : Prop where
  x : ∃ (ok okr : Nat → Prop) (A : Option Addr) (c : Nat) (es : List Elt), RelAt ok w br wd os R1 m bss ∧ Ref7 okr w W.heap.size b 0 wd A c es R2 ∧ (∀ k, okr k ∨ k = b → k < w.heap.size ∧ ¬ (ok k ∨ k = br ∨ k = m ∨ k ∈ bss) ∧ ¬ ex k) ∧ (∀ k, ok k ∨ k = br ∨ k = m ∨ k ∈ bss → k < w.heap.size ∧ ¬ ex k) ∧ ¬ okr b
  low : Below W.heap.size W w
  new : W.heap.size ≤ m ∧ (∀ k ∈ bss, W.heap.size ≤ k) ∧ W.heap.size ≤ b
  exl : ∀ k, ex k → k < w.heap.size
section
variable {W w w' : World} {br b wd m : Nat} {bss : List Nat} {os : List Tp} {ex : Nat → Prop} {R1 R2 : List Row}
theorem OwnI.keep (h : OwnI W br b wd m bss os ex R1 R2 w) (hk : KeptS ex w w') (hB : Below W.heap.size W w') : OwnI W br b wd m bss os ex R1 R2 w' := by
  obtain ⟨ok, okr, A, c, es, h1, h2, h3, h4, h5⟩ := h.x
  refine ⟨⟨ok, okr, A, c, es, h1.kept hk fun k hk' _ => (h4 k hk').2, h2.row_step (fun k hk' hlt => hk.same k hlt (h3 k (.inl hk')).2.2) (hk.same b (h3 b (.inr rfl)).1 (h3 b (.inr rfl)).2.2), fun k hk' => ?_, fun k hk' => ?_, h5⟩, hB, h.new, fun k hk' => Nat.lt_of_lt_of_le (h.exl k hk') hk.size⟩
  · have := h3 k hk'; exact ⟨Nat.lt_of_lt_of_le this.1 hk.size, this.2⟩
  · have := h4 k hk'; exact ⟨Nat.lt_of_lt_of_le this.1 hk.size, this.2⟩
theorem OwnI.since (h : OwnI W br b wd m bss os ex R1 R2 w) (hs : Since w w') : OwnI W br b wd m bss os ex R1 R2 w' := h.keep (.below hs.b) (below_then h.low h.low.size hs.b)
theorem OwnI.fresh (h : OwnI W br b wd m bss os ex R1 R2 w) (hs : Since w w') : OwnI W br b wd m bss os (fun k => w.heap.size ≤ k ∧ k < w'.heap.size) R1 R2 w' := by
  obtain ⟨ok', okr', A', c', es', g1, g2, g3, g4, g5⟩ := h.x
  exact ⟨⟨ok', okr', A', c', es', g1.below hs.b, g2.since hs, fun k hk => by
    have := g3 k hk
    exact ⟨Nat.lt_of_lt_of_le this.1 hs.b.size, this.2.1, by omega⟩, fun k hk => by
    have := g4 k hk
    exact ⟨Nat.lt_of_lt_of_le this.1 hs.b.size, by omega⟩, g5⟩, below_then h.low h.low.size hs.b, h.new, fun k hk => hk.2⟩
theorem OwnI.drop (h : OwnI W br b wd m bss os ex R1 R2 w) : OwnI W br b wd m bss os (fun _ => False) R1 R2 w := by
  obtain ⟨ok, okr, A, c, es, h1, h2, h3, h4, h5⟩ := h.x
  exact ⟨⟨ok, okr, A, c, es, h1, h2, fun k hk => ⟨(h3 k hk).1, (h3 k hk).2.1, id⟩, fun k hk => ⟨(h4 k hk).1, id⟩, h5⟩, h.low, h.new, fun _ h => h.elim⟩
theorem own_not (h : OwnI W br b wd m bss os ex R1 R2 w) {k : Nat} (hk : ex k) : k ≠ br ∧ k ≠ b ∧ ¬ (k = m ∨ k ∈ bss) := by
  obtain ⟨ok, okr, A, c, es, h1, h2, h3, h4, h5⟩ := h.x
  exact ⟨fun e => (h4 k (.inr (.inl e))).2 hk, fun e => (h3 k (.inr e)).2.2 hk, fun e => (h4 k (.inr (.inr e))).2 hk⟩
theorem OwnI.put_rel (h : OwnI W br b wd m bss os ex R1 R2 w) (x y : Nat) {A : Option Addr} {c : Nat} {t : Tp} (hs : ∀ w', KeptS (fun k => k = m ∨ k ∈ bss) w w' → Sl w' A c t) :
    Calls Tryz.prog 13 #[.pointer (some ⟨br, 0, none⟩), .complex .f64 x y, .slice A t.length c] w fun e w' => e = .returned (.tuple #[.bool (putC wd R1 t x y).2.1, .int .i64 (putC wd R1 t x y).2.2]) ∧ OwnI W br b wd m bss os ex (putC wd R1 t x y).1 R2 w' ∧ KeptS (fun k => k = m ∨ k ∈ bss) w w' := by
  obtain ⟨ok, okr, Ar, cr, es, h1, h2, h3, h4, h5⟩ := h.x
  refine (rput_calls h1 x y A c t hs).mono fun e w' hp => ⟨hp.1, ?_, hp.2.2⟩
  have hk := hp.2.2
  have hlow : Below W.heap.size W w' := hk.below_of h.low (fun k hk hS => hS.elim (fun e => by have := h.new.1; omega) (fun hm => by have := h.new.2.1 k hm; omega))
  have hno : ∀ k, okr k ∨ k = b → ¬ (k = m ∨ k ∈ bss) := fun k hk hS => (h3 k hk).2.1 (.inr (.inr hS))
  have hR := hp.2.1.bound
  refine ⟨⟨_, okr, Ar, cr, es, hR, h2.row_step (fun k hk' hlt => hk.same k hlt (hno k (.inl hk'))) (hk.same b (h3 b (.inr rfl)).1 (hno b (.inr rfl))), fun k hk' => ?_, fun k hk' => ?_, h5⟩, hlow, h.new, fun k hk' => Nat.lt_of_lt_of_le (h.exl k hk') hk.size⟩
  · have h3' := h3 k hk'
    refine ⟨Nat.lt_of_lt_of_le h3'.1 hk.size, ?_, h3'.2.2⟩
    rintro (⟨hk1 | hk1, _⟩ | hk1)
    · exact h3'.2.1 (.inl hk1)
    · have := h3'.1; omega
    · exact h3'.2.1 (.inr hk1)
  · rcases hk' with ⟨hk1 | hk1, hk2⟩ | hk1
    · exact ⟨hk2, (h4 k (.inl hk1)).2⟩
    · exact ⟨hk2, fun he => by have := h.exl k he; omega⟩
    · have := h4 k (.inr hk1)
      exact ⟨Nat.lt_of_lt_of_le this.1 hk.size, this.2⟩
theorem OwnI.put_ref (h : OwnI W br b wd m bss os ex R1 R2 w) {At : Option Addr} {ct : Nat} {t : Tp} (st : Sl w At ct t) (n : Int × Int) (hn1 : rightB n.1 = true) (hn2 : rightB n.2 = true) (hnb : ∀ o, lookF R2 t = some o → betterB n.1 n.2 o.1 o.2 = false) :
    Calls Tryz.prog 27 #[.pointer (some ⟨b, 0, none⟩), .int .i64 n.1, .int .i64 n.2, .slice At t.length ct] w fun e w' => e = .returned (.tuple #[.bool (putAns wd R2 t).1, .int .i64 (putAns wd R2 t).2]) ∧ OwnI W br b wd m bss os ex R1 (putTo wd R2 t n) w' ∧ KeptS (fun k => k = b ∨ ∃ cs, w.heap[k]? = some (.cells cs 61 (0, 0))) w w' := by
  obtain ⟨ok, okr, Ar, cr, es, h1, h2, h3, h4, h5⟩ := h.x
  refine (rput7_less w h2 h5 h.low.size At ct t st n hn1 hn2 hnb).mono fun e w' hp => ⟨hp.1, ?_, ?_⟩
  · obtain ⟨_, ⟨A', c', es', hR⟩, hP⟩ := hp
    have hk := hP.k
    have hlow : Below W.heap.size W w' := hk.below_of h.low (fun k hk hS => hS.elim (fun e => by have := h.new.2.2; omega) (fun hm => by have := own_ge h2.own k hm.symm; omega))
    have hno : ∀ k, ok k ∨ k = br ∨ k = m ∨ k ∈ bss → ¬ (k = b ∨ (Value.slice Ar R2.length cr).ownBlock = some k) := fun k hk hS => hS.elim (fun e => (h3 k (.inr e)).2.1 hk) fun e => (h3 k (.inl (h2.ok0 k e))).2.1 hk
    refine ⟨⟨ok, _, A', c', es', h1.kept hk fun k hk' _ => hno k hk', hR.bound, fun k hk' => ?_, fun k hk' => ?_, fun hk' => plus_not h5 (h3 b (.inr rfl)).1 hk'.1⟩, hlow, h.new, fun k hk' => Nat.lt_of_lt_of_le (h.exl k hk') hk.size⟩
    · rcases hk' with ⟨hk1 | hk1, hk2⟩ | hk1
      · have := h3 k (.inl hk1); exact ⟨hk2, this.2⟩
      · refine ⟨hk2, fun hx => ?_, fun he => by have := h.exl k he; omega⟩
        have := (h4 k hx).1; omega
      · have := h3 k (.inr hk1); exact ⟨Nat.lt_of_lt_of_le this.1 hk.size, this.2⟩
    · have := h4 k hk'
      exact ⟨Nat.lt_of_lt_of_le this.1 hk.size, this.2⟩
  · exact hp.2.2.k.mono fun k hk => hk.imp id fun e => own_typed h2.own k e
end
end Go.Proofs.YtcmllllbmgcnlaaGreat.Rl
end
section
namespace Go.Proofs.YtcmllllbmgcnlaaGreat.Rl
open Go.RowKit Go.Lib Go.Shelf Go.Proofs.YtcmllllbmgcnlaaGreat.G Go.Proofs.YtcmllllbmgcnlaaGreat.Tup Go.Proofs.YtcmllllbmgcnlaaGreatW.PrintWords Go.Proofs.YtcmllllbmgcnlaaGreatW.PrintLast Go.Proofs.YtcmllllbmgcnlaaGreatW.PrintMore
open Go.Proofs.YtcmllllbmgcnlaaGreat.Ch (rwrongS)
set_option linter.unusedVariables false
set_option linter.unusedSimpArgs false
attribute [local go_sem] Oper.semAt_some
theorem wpListIn_append_any {F : Fence} {n0 : Nat} {P : Program} {w : World} {ops : Array Oper} {rest : List Oper} {o : Oper} {a : Act} {Q : Exit → Act → World → Prop} (hgd : o.guard = none) (s x : Operand) (t : TypeId)
    (ho : o.op = .call { callee := .builtin .append, args := #[s, x], argTypes := #[t, t] })
    (base : Nat) (e : TypeId) (i : TypeInfo) (z : Value) (bytes : Nat) (ht : P.underlying t = some (.slice e)) (hi : P.info? e = some i) (hz : i.zero = some z)
    (hsize : i.size = 1) (hby : i.bytes = bytes) (hzs : z.cells.size = 1)
    (v : Value) (n : Nat) (xs : List Value) (hs : a.eval s = v) (hown : w.ownsRow base e 1 v n xs)
    (A : Option Addr) (m c : Nat) (news : List Value) (hx : a.eval x = .slice A m c) (hl : news.length = m) (hA : A = none → m = 0) (hnews : ∀ ad, A = some ad → ∀ j u, news[j]? = some u → w.cell? (ad.add j) = some u) (h1 : ∀ u ∈ news, u.oneCell' = true)
    (h63 : n + m ≤ maxLen) (hbytes : (n + m) * bytes ≤ 140737488355328) (hbase : base ≤ w.heap.size)
    (h : ∀ v' w', w'.ownsRow base e 1 v' (n + m) (xs ++ news) → w.grownBy w' v.ownBlock → wpListIn F n0 P ops Q rest (a.put o.dst v') w') : wpListIn F n0 P ops Q (o :: rest) a w := by
  cases A with
  | some ad => exact wpListIn_append_own _ hgd s x t ho base e i z 1 bytes ht hi hz hsize hby hzs (by decide) v n xs hs hown ad m c news hx (by omega) (hnews ad rfl) h1 h63 hbytes hbase fun v' w' h2 h3 _ => h v' w' h2 h3
  | none =>
    obtain rfl := hA rfl
    obtain rfl : news = [] := List.length_eq_zero_iff.1 hl
    refine wpListIn_plain hgd fun K hK => ?_
    have hrun := run_append_nil0 (P := P) (w := w) base t o.type e i 1 ht hi v n xs hown c
    unfold Oper.wpIn
    refine ⟨?_, ?_⟩
    · simp [Oper.about, ho, resolve, Target.leads, Sem.run_pure]
    · rw [Oper.semAt_plain F _ _ (by rw [ho]; intro c hc'; cases hc')]
      simp [execOp, ho, resolve, invoke, builtin, hs, hx, hrun, Result.andThen]
      exact hK _ _ (h v w (by simpa using hown) ⟨rfl, rfl, rfl, Nat.le_refl _, fun _ _ _ => rfl⟩)
theorem right_i {i : Nat} (h : i ≤ 200) : rightB (i : Int) = true := by
  unfold rightB
  simp only [Bool.and_eq_true, Bool.not_eq_true', decide_eq_false_iff_not]
  omega
theorem noteF_right {h k : Int} (h1 : rightB h = true) (h2 : rightB k = true) : (noteF h k).1 = (nf h, nf k) := by
  unfold noteF
  rw [h1, h2]
  rfl
theorem putC_nf {wd : Nat} {R : List Row} {t : Tp} {h k : Int} (h1 : rightB h = true) (h2 : rightB k = true) : (putC wd R t (nf h) (nf k)).1 = putTo wd R t (h, k) := by
  unfold putC
  rw [heightF_nf h1 h2]
  by_cases hl : t.length ≠ wd
  · rw [if_pos hl]; unfold putTo; rw [if_pos hl]
  · rw [if_neg hl]; rfl
theorem putTo_heights {wd : Nat} {R : List Row} {t : Tp} {i : Nat} {k : Int} (h : ∀ x ∈ R, x.2.1 < (i : Int)) : ∀ x ∈ putTo wd R t ((i : Int), k), x.2.1 < ((i + 1 : Nat) : Int) := fun x hx => by
  have hR : ∀ x ∈ R, x.2.1 < ((i + 1 : Nat) : Int) := fun x hx => by have := h x hx; omega
  unfold putTo at hx
  split at hx
  · exact hR x hx
  · split at hx
    · split at hx
      · rcases updF_mem hx with rfl | hx
        · show (i : Int) < _; omega
        · exact hR x hx
      · exact hR x hx
    · split at hx
      · exact hR x hx
      · rcases insRow_mem hx with rfl | hx
        · show (i : Int) < _; omega
        · exact hR x hx
theorem not_better {R : List Row} {t : Tp} {i : Nat} {k : Int} (h : ∀ x ∈ R, x.2.1 < (i : Int)) : ∀ o, lookF R t = some o → betterB ((i : Int), k).1 ((i : Int), k).2 o.1 o.2 = false := fun o ho => by
  have := h _ (lookF_mem ho)
  dsimp only at this
  simp only [betterB, Bool.or_eq_false_iff, decide_eq_false_iff_not, Bool.and_eq_false_iff]
  omega
theorem range2_outer1 {F : Fence} {n : Nat} {P : Program} {g : Operand} {ps : Array Tmp} {assign body : Code} {Q : Exit → Act → World → Prop} {a : Act} {w : World} (hd : F.depth = none) (hro : F.round = none)
    {gf : Nat} {lb : Array Value} (hg : a.eval g = .func (.func gf) #[] lb) (hFg : F.fn gf) (eg : ∀ args w, (callFunc gf args).run P w = .ok (.enter gf args) w)
    {xs : List Row} (hseq : Seq2R F P gf lb xs w) (hps : ps.size = 2) (asg : Array Value → Value → Value → Array Value)
    (I : Nat → List Row → World → Prop) (Ix : Nat → Code → List Row → World → Prop) (hI : ∀ N, w.heap.size + 2 ≤ N → OwnFrom w.heap.size (I N)) (hIx : ∀ N c, w.heap.size + 2 ≤ N → OwnFrom w.heap.size (Ix N c)) (h0 : ∀ W', Below w.heap.size w W' → w.heap.size + 2 ≤ W'.heap.size → I W'.heap.size [] W')
    (hassign : ∀ l u v W (K : Act → World → Prop), K { tmps := asg a.tmps u v, defers := [] } W → assign.wpIn (F.inRound l) n P (Exit.then K (fun _ _ _ => False)) { tmps := (ps.zip #[u, v]).foldl (fun t (p, v) => t.setIfInBounds p v) a.tmps, defers := [] } W)
    (hbody : ∀ N l pre x A c W1, w.heap.size + 2 ≤ N → w.heap.size ≤ l → (∃ r, W1.heap[l]? = some (.loop r)) → pre ++ [x] <+: xs → Given (w.heap.size + 2) N W1 A c x.1 → I N pre W1 → body.wpIn (F.inRound l) n P (ownPostG w.heap.size (KpF (PrivX (w.heap.size + 2) N A)) (I N) (Ix N) (pre ++ [x]) W1) { tmps := asg a.tmps (.slice A x.1.length c) (noteV x.2), defers := [] } W1)
    (hdone : ∀ (N D : Nat) (W : World), w.heap.size + 2 ≤ N → w.heap.size ≤ D → I N xs W → W.heap[D]? = some (.deferred (some [])) → Q .normal { a with defers := { target := .collected D, args := #[] } :: a.defers } W)
    (hstop : ∀ (N D : Nat) (c : Code) (pre : List Row) (W : World), w.heap.size + 2 ≤ N → w.heap.size ≤ D → pre <+: xs → Ix N c pre W → W.heap[D]? = some (.deferred (some [])) → c.wpIn F n P Q { a with defers := { target := .collected D, args := #[] } :: a.defers } W) :
    (Code.rangeFunc g ps assign body).wpIn F n P Q a w :=
  range2_outer hd hro hg hFg eg hseq hps I Ix hI hIx h0 (fun x A c => { tmps := asg a.tmps (.slice A x.1.length c) (noteV x.2), defers := [] }) (fun l x A c W K hK => hassign l _ _ W K hK) hbody hdone hstop
def SinceN (w : World) (N : Nat) (_ : List Row) (W : World) : Prop := N ≤ W.heap.size ∧ Below w.heap.size w W
theorem sinceN_own (w : World) (N : Nat) : OwnFrom w.heap.size (SinceN w N) := by
  rintro s W W' row ⟨h1, h2⟩ hg hr
  exact ⟨Nat.le_trans h1 hg.size, h2.grown hg h2.size fun k e => (hr k e).1⟩
set_option maxHeartbeats 8000000 in
set_option maxRecDepth 100000 in
theorem own_main (W : World) (wd : Nat) (hok : rwrongS (wd : Int) [1] = 0) (h8 : wd ≤ 8) (A1 : Option Addr) (c1 n : Nat) (ls : List Tp) (hls : Kd.C KT W A1 n ls) (hwid : ∀ t ∈ ls, t.length * 8 ≤ 140737488351232) (hc1 : n ≤ c1) (hn : n ≤ 200) :
    Calls Tryz.prog 8 #[.int .i64 (wd : Int), .slice A1 n c1] W fun e w' => e = .returned (.bool true) ∧ Below W.heap.size W w' := by
  have HOK := Aside0.mk hok
  have HLS := Aside0.mk hls
  have HWD := Aside0.mk hwid
  have e5 : decide ((n : Int) > 200) = false := decide_eq_false (by omega)
  have e6 : ¬ (n : Int) > 200 := by omega
  obtain ⟨i1, hi', hz0', hz1', hz2'⟩ := info_parts (show (Tryz.prog.info? 3).map (fun i => (i.zero, i.size, i.bytes)) = some (some (.int .i64 0), 1, 8) by kernel_rfl)
  have HI1 := Aside0.mk (And.intro hi' (And.intro hz0' (And.intro hz1' hz2')))
  clear hok hls hwid hi' hz0' hz1' hz2'
  refine callsIn_wide (n := 3) |>.1 ?_
  refine callsIn_of_wp_marks Tryz.func8 rfl trivial ?_ rfl
  simp only [Tryz.ntmps8, List.size_toArray, List.length_cons, List.length_nil, Nat.reduceAdd, Nat.reduceSub, Array.replicate_succ, Array.replicate_zero, List.push_toArray, List.append_toArray, List.nil_append, List.cons_append]
  gi_wp2_with (first
    | ((try refine ⟨trivial, ?_⟩); gi_at_call 12; refine (callsIn_wide.2 (alive_calls _)).mono ?_; rintro e w1 ⟨rfl, hb1⟩; have HB1 := Aside0.mk hb1; have HN1 := Aside0.mk (rnew_yes (w1.alloc (.cells #[.int .i64 1] 3)) wd _ 1 [1] (sl1_new w1 1) HOK.out); clear hb1)
    | ((try refine ⟨trivial, ?_⟩); gi_at_call 11; (refine (callsIn_wide.2 HN1.out).mono ?_); clear HN1; rintro e w2 hm; obtain ⟨br, os, m, bss, rfl, ok, hA⟩ := made_i hm; have HA2 := Aside0.mk hA; have HN2 := Aside0.mk (rnew7_yes (w2.alloc (.cells #[.int .i64 1] 3)) wd _ 1 [1] (sl1_new w2 1) HOK.out); clear hm hA)
    | ((try refine ⟨trivial, ?_⟩); gi_at_call 26; (refine (callsIn_wide.2 HN2.out).mono ?_); clear HN2; rintro e w3 ⟨rfl, hb3⟩; have HB3 := Aside0.mk hb3; clear hb3))
  have hOwn : OwnI W br w3.heap.size wd m bss os (fun _ => False) [] [] (w3.alloc (.cells #[.int .i64 (wd : Int), .slice none 0 0] 64)) := by
    have hbk := heap_alloc_new w3 (.cells #[.int .i64 (wd : Int), .slice none 0 0] 64)
    have hs23 : Since w2 w3 := ((Since.refl w2).alloc _).step HB3.out
    have hs3 : Since w2 (w3.alloc (.cells #[.int .i64 (wd : Int), .slice none 0 0] 64)) := hs23.alloc _
    have hw1 : Below W.heap.size W (w1.alloc (.cells #[.int .i64 1] 3)) := below_alloc HB1.out _
    have hw1s := hw1.size
    have hz23 := hs23.b.size
    have hsz : (w3.alloc (.cells #[.int .i64 (wd : Int), .slice none 0 0] 64)).heap.size = w3.heap.size + 1 := by simp
    have hR := HA2.out.rel.bound.below hs3.b
    have hlt := HA2.out.rel.lt
    have hml := HA2.out.rel.map.lt
    have hbl := HA2.out.rel.blt
    have hnew := HA2.out.new
    have hall : ∀ k, (ok k ∧ k < w2.heap.size) ∨ k = br ∨ k = m ∨ k ∈ bss → k < w3.heap.size := fun k hk => by
      rcases hk with hk | hk | hk | hk
      · omega
      · omega
      · omega
      · have := hbl k hk; omega
    refine ⟨⟨_, fun _ => False, none, 0, [], hR, ⟨(Tup.cell_of_heap hbk 0).trans rfl, (Tup.cell_of_heap hbk 1).trans rfl, free_of_heap hbk 1, World.ownsRow_nil _ _ _ _, (fun k hk => by cases hk), (fun e he => by cases he), (fun e he => by cases he), rfl, h8, HA2.out.rel.hR⟩, fun k hk => ?_, fun k hk => ⟨by have := hall k hk; omega, id⟩, id⟩, ?_, ⟨by omega, fun k hk => by have := hnew.2 k hk; omega, ?_⟩, fun _ h => h.elim⟩
    · rcases hk with hk | rfl
      · exact hk.elim
      · exact ⟨by omega, fun hk => by have := hall _ hk; omega, id⟩
    · exact below_then hw1 hw1.size (HA2.out.below hs3.b).b
    · have := HA2.out.b.size; omega
  have HOW := Aside0.mk hOwn
  obtain ⟨b, hb⟩ : ∃ b, b = w3.heap.size := ⟨_, rfl⟩
  rw [← hb] at HOW ⊢
  clear hOwn hb HA2 HB1 HB3
  gi_loopw [46] (fun v46 wr => ∃ (i : Nat) (R : List Row), i ≤ n ∧ v46 = .int .i64 i ∧ Aside0 (OwnI W br b wd m bss os (fun _ => False) R R wr) ∧ Aside0 (∀ x ∈ R, x.2.1 < (i : Int))) (fun v46 _ => n - (intOf v46).toNat)
  case atStart => exact ⟨0, [], Nat.zero_le _, rfl, HOW, ⟨by simp⟩⟩
  case round =>
    obtain ⟨i, R, hi, rfl, HOI, HHT⟩ := hrel
    clear HOW
    by_cases hlt : i < n
    · have hlen : ls.length = n := HLS.out.1
      have hil : i < ls.length := by omega
      have hii : (i : Int) < (n : Int) := by omega
      obtain ⟨ad, Ai, ci, rfl, hcW, slW⟩ := tup_at HLS.out i hil
      obtain ⟨t, ht⟩ : ∃ t, t = ls[i] := ⟨_, rfl⟩
      rw [← ht] at hcW slW
      have hcell := pw_cell_below HOI.out.low hcW
      have hxw : t.length * 8 ≤ 140737488351232 := HWD.out t (by rw [ht]; exact List.getElem_mem _)
      obtain ⟨ts, hEt, htl, htA, htc⟩ := rows_out (d := Kd.int .i64) rfl (Kd.C_F (Kd.heap_int .i64) (slW.below HOI.out.low).C)
      have hts := els_ints hEt
      rw [hts] at htc
      have HTC := Aside0.mk htc
      have HTA := Aside0.mk htA
      have SLW := Aside0.mk slW
      have hri := right_i (show i ≤ 200 by omega)
      have hr2 : rightB 2 = true := by decide
      have HNt := Aside0.mk (fun w => by
        have h := lnote_calls w i 2
        rw [noteF_right hri hr2] at h
        exact h)
      have HRI := Aside0.mk (And.intro hri hr2)
      clear ht hlen hcW slW hts htc htl hEt htA hri hr2
      gi_wp2_with (first
        | (gi_at_builtin; go_loud (refine wpListIn_append_any rfl (.const (.slice none 0 0)) (.tmp 51) 23 rfl wr.heap.size 3 i1 (.int .i64 0) 8 Tryz.underlying23 HI1.out.1 HI1.out.2.1 HI1.out.2.2.1 HI1.out.2.2.2 rfl (.slice none 0 0) 0 [] rfl (World.ownsRow_nil _ _ _ _) Ai t.length ci (t.map (Value.int .i64)) rfl (by simp) HTA.out HTC.out (fun u hu => by obtain ⟨z, _, rfl⟩ := List.mem_map.1 hu; rfl) (by unfold maxLen; omega) (by omega) (Nat.le_refl _) ?_; intro v2 wb hown2 hg2; simp only [Nat.zero_add, List.nil_append] at hown2; have S2 := Aside0.mk (since_grown (Since.refl wr) hg2 (fun k e => by simp [Value.ownBlock] at e)); have O2 := Aside0.mk hown2; obtain ⟨A2, c2, hv2⟩ := own_slc hown2; subst hv2; have HF2 := Aside0.mk (HOI.out.fresh S2.out); have HG2 := Aside0.mk (And.intro (own_ge hown2) (Tup.own_lt hown2)); have HPr := Aside0.mk (HF2.out.put_rel (nf i) (nf 2) (A := A2) (c := c2) (t := t) (fun w' hk => own_sl (own_move O2.out fun k hk' => hk.same k (HG2.out.2 k hk'.symm) (own_not HF2.out ⟨HG2.out.1 k hk'.symm, HG2.out.2 k hk'.symm⟩).2.2))); clear hown2 hg2))
        | ((try refine ⟨trivial, ?_⟩); gi_at_call 20; refine (callsIn_wide.2 (HNt.out _)).mono ?_; rintro e w3 ⟨rfl, hw3⟩; subst hw3)
        | ((try refine ⟨trivial, ?_⟩); gi_at_call 13; (with_reducible refine (callsIn_wide.2 HPr.out).mono ?_); clear HPr; rintro e w4 ⟨rfl, hO4, hk4⟩; rw [putC_nf HRI.out.1 HRI.out.2] at hO4; have HO4 := Aside0.mk hO4; have HK4 := Aside0.mk hk4; have HPq := Aside0.mk (hO4.put_ref (SLW.out.below hO4.low) ((i : Int), 2) HRI.out.1 HRI.out.2 (not_better HHT.out)); clear hO4 hk4)
        | ((try refine ⟨trivial, ?_⟩); gi_at_call 27; (with_reducible refine (callsIn_wide.2 HPq.out).mono ?_); clear HPq; rintro e w5 ⟨rfl, hO5, hk5⟩; have HO5 := Aside0.mk hO5; have HK5 := Aside0.mk hk5; clear hO5 hk5))
      obtain ⟨R3, hR3⟩ : ∃ R3, R3 = putTo wd R t ((i : Int), 2) := ⟨_, rfl⟩
      have HT3 := Aside0.mk (fun x (hx : x ∈ R3) => putTo_heights HHT.out (k := 2) (t := t) (wd := wd) x (hR3 ▸ hx))
      rw [← hR3] at HO5
      have hsz4 := HK4.out.size
      have hsz5 := HK5.out.size
      have HO5r := Aside0.mk (own_move (w1 := w5) O2.out fun k hk => by
        have h1 := HG2.out.1 k hk.symm
        have h2 := HG2.out.2 k hk.symm
        have hn := own_not HF2.out ⟨h1, h2⟩
        have e4 := HK4.out.same k h2 hn.2.2
        refine (HK5.out.same k (by omega) ?_).trans e4
        rintro (e | ⟨cs, hc⟩)
        · exact hn.2.1 e
        · obtain ⟨cs2, hc2⟩ := own_typed O2.out k hk
          rw [e4, hc2] at hc
          injection hc with hc
          injection hc with _ h3 _
          exact absurd h3 (by decide))
      have HSZ : Aside0 (wr.heap.size ≤ wb.heap.size ∧ wb.heap.size ≤ w4.heap.size ∧ w4.heap.size ≤ w5.heap.size) := ⟨S2.out.b.size, hsz4, hsz5⟩
      clear hR3 hsz4 hsz5 HNt HTC HTA
      obtain ⟨wo, hwo⟩ : ∃ wo : World, wo = wr := ⟨_, rfl⟩
      subst hwo
      obtain ⟨xn, hxn⟩ : ∃ xn, xn = t.length := ⟨_, rfl⟩
      rw [← hxn] at hxw HO5r HG2 ⊢
      have HXN := Aside0.mk hxn
      clear hxn
      gi_loopw [63] (fun v63 wr => ∃ q : Nat, q ≤ xn ∧ v63 = .int .i64 q ∧ Aside0 (∃ xs', wr.ownsRow wo.heap.size 3 1 (.slice A2 xn c2) xn xs') ∧ Aside0 (w5.grownBy wr (Value.slice A2 xn c2).ownBlock)) (fun v63 _ => xn - (intOf v63).toNat)
      case atStart => exact ⟨0, Nat.zero_le _, rfl, ⟨_, HO5r.out⟩, ⟨World.grownBy.refl _ _⟩⟩
      case round =>
        obtain ⟨q, hq, rfl, HOX, HGX⟩ := hrel
        by_cases hqx : q < xn
        · have hqi : (q : Int) < (xn : Int) := by omega
          obtain ⟨xs', hox⟩ := HOX.out
          obtain ⟨g, cap, e, hgg⟩ : ∃ g cap, Value.slice A2 xn c2 = .slice (some ⟨g, 0, none⟩) xn cap ∧ g < wr.heap.size := by
            rcases hox.2 with ⟨_, h⟩ | ⟨g, cap, cur, e, hb, hg, _⟩
            · omega
            · exact ⟨g, cap, e, (Array.getElem?_eq_some_iff.1 hg).1⟩
          injection e with ea eb ec
          subst ea ec
          have hl : xs'.length = xn := by have := hox.1; omega
          have hcl : wr.cell? ⟨g, q, none⟩ = some (xs'[q]'(by omega)) := by rw [hox.cellAt q (by omega)]; exact List.getElem?_eq_getElem _
          have hfr := hox.frozenAt q
          have hst := hox.stored q (.int .i64 (-9))
          have HST := Aside0.mk hst
          clear hox hst
          gi_wp2
          go_roundw
          case rel => exact ⟨q + 1, by omega, by go_num, ⟨_, HST.out.1⟩, ⟨HGX.out.trans HST.out.2⟩⟩
          case measure => simp [intOf]; omega
        · gi_wp2
          go_roundw
          case measure => simp [intOf]; omega
          case rel =>
            have hgl := HG2.out
            have hge5 := HSZ.out
            have hkx : KeptS (fun k => wo.heap.size ≤ k ∧ k < wb.heap.size) w5 wr := ⟨HGX.out.os, HGX.out.tape, HGX.out.output, HGX.out.size, fun k hk hn => HGX.out.block k hk fun e => hn ⟨hgl.1 k e, hgl.2 k e⟩⟩
            have hlo : Below W.heap.size W wr := HO5.out.low.grown HGX.out HO5.out.low.size (fun k e => by have := hgl.1 k e.symm; have := HOI.out.low.size; omega)
            exact ⟨i + 1, R3, by omega, by go_num, ⟨(HO5.out.keep hkx hlo).drop⟩, ⟨HT3.out⟩⟩
    · obtain rfl : i = n := by omega
      have hA1 := rall_calls wr (.pointer (some ⟨br, 0, none⟩)) ⟨_, rfl⟩
      gi_wp2_with (first
        | ((try refine ⟨trivial, ?_⟩); gi_at_call 25; refine (callsIn_wide.2 hA1).mono ?_; clear hA1; rintro e w7 ⟨rfl, rfl⟩))
      have hb7 := Aside0.mk (Since.alloc (Since.refl wr) (.cells #[.pointer (some ⟨br, 0, none⟩)] 24))
      have HCB := Aside0.mk ((Tup.cell_of_heap (heap_alloc_new wr (.cells #[.pointer (some ⟨br, 0, none⟩)] 24)) 0).trans rfl)
      obtain ⟨w7, hw7⟩ : ∃ w7, w7 = wr.alloc (.cells #[.pointer (some ⟨br, 0, none⟩)] 24) := ⟨_, rfl⟩
      rw [← hw7] at hb7 HCB ⊢
      clear hw7
      obtain ⟨ok, okr, Ar, cr, es, h1, h2, _⟩ := (HOI.out.since hb7.out).x
      have H1 := Aside0.mk h1
      have H2 := Aside0.mk h2
      have HLW := Aside0.mk (HOI.out.since hb7.out).low
      clear h1 h2 hb7
      refine range2_outer1 rfl rfl (gf := 54) (lb := #[.pointer (some ⟨wr.heap.size, 0, none⟩)]) rfl trivial rall_enters (rall_seq H1.out wr.heap.size HCB.out) rfl (fun t u v => ((t.setIfInBounds 73 u).setIfInBounds 74 v).setIfInBounds 13 u) (SinceN w7) (fun _ _ _ _ => False) (fun N _ => sinceN_own w7 N) (fun _ _ _ _ _ _ _ hs _ _ => hs) (fun W' hW' _ => ⟨Nat.le_refl _, hW'⟩) ?assign ?body ?done ?stop
      case assign =>
        intro l u v W K hK
        gi_wp2
        exact hK
      case body =>
        rintro N l pre x A c W1 hNw hl hrec hpre ⟨hh2, hhN⟩ ⟨hNW, hB⟩
        have hx8 := H1.out.hR.wd x (hpre.subset (by simp))
        have HH2 := Aside0.mk hh2
        have HBB := Aside0.mk hB
        have HNN := Aside0.mk hNW
        clear hNw hl hrec hpre hh2 hhN hNW hB
        obtain ⟨x1, xm⟩ := x
        dsimp only at hx8 HH2 ⊢
        obtain ⟨xn, hxn⟩ : ∃ xn, xn = x1.length := ⟨_, rfl⟩
        rw [← hxn] at HH2 hx8 ⊢
        clear hxn
        gi_wp2
        gi_loopw [77] (fun v77 wq => ∃ q : Nat, q ≤ xn ∧ v77 = .int .i64 q ∧ Aside0 (∃ xs', wq.ownsRow (w7.heap.size + 2) 3 1 (.slice A xn c) xn xs') ∧ Aside0 (W1.grownBy wq (Value.slice A xn c).ownBlock)) (fun v77 _ => xn - (intOf v77).toNat)
        case atStart => exact ⟨0, Nat.zero_le _, rfl, ⟨_, HH2.out⟩, ⟨World.grownBy.refl _ _⟩⟩
        case round =>
          obtain ⟨q, hq, rfl, HOX, HGX⟩ := hrel
          by_cases hqx : q < xn
          · have hqi : (q : Int) < (xn : Int) := by omega
            obtain ⟨xs', hox⟩ := HOX.out
            obtain ⟨g, cap, e, hgg⟩ : ∃ g cap, Value.slice A xn c = .slice (some ⟨g, 0, none⟩) xn cap ∧ g < wr.heap.size := by
              rcases hox.2 with ⟨_, h⟩ | ⟨g, cap, cur, e, hb, hg, _⟩
              · omega
              · exact ⟨g, cap, e, (Array.getElem?_eq_some_iff.1 hg).1⟩
            injection e with ea eb ec
            subst ea ec
            have hl : xs'.length = xn := by have := hox.1; omega
            have hcl : wr.cell? ⟨g, q, none⟩ = some (xs'[q]'(by omega)) := by rw [hox.cellAt q (by omega)]; exact List.getElem?_eq_getElem _
            have hfr := hox.frozenAt q
            have hst := hox.stored q (.int .i64 (-8))
            have HST := Aside0.mk hst
            clear hox hst
            gi_wp2
            go_roundw
            case rel => exact ⟨q + 1, by omega, by go_num, ⟨_, HST.out.1⟩, ⟨HGX.out.trans HST.out.2⟩⟩
            case measure => simp [intOf]; omega
          · gi_wp2
            have hge := own_ge HH2.out
            refine ⟨KeepsOthers.from (KeepsOthers.of_grownBy HGX.out fun j o ej hj => ?_) _, ⟨HGX.out.size, fun k hk hlt => HGX.out.block k hlt fun e => ?_⟩, Nat.le_trans HNN.out HGX.out.size, HBB.out.grown HGX.out HBB.out.size fun k e => by have := hge k e.symm; omega⟩
            · obtain ⟨cs, hcs⟩ := own_typed HH2.out j ej
              rw [hcs] at hj; cases hj; rfl
            · cases A with
              | none => simp [Value.ownBlock] at e
              | some ad =>
                refine hk.2.2 ad rfl ?_
                rcases HH2.out.2 with ⟨e1, _⟩ | ⟨g, cap, cur, e1, _⟩
                · cases e1
                · injection e1 with e1 _ _
                  injection e1 with e1
                  subst e1
                  simpa [Value.ownBlock] using e
      case done =>
        rintro N D W7 hNw hD ⟨hN, hB⟩ hK
        have S7 := Aside0.mk ((Since.refl w7).step hB)
        have HK := Aside0.mk hK
        have HD := Aside0.mk hD
        clear hN hB hK hNw hD
        gi_wp2
        refine wpIn_wide.2 ?_
        obtain ⟨rn, hrn⟩ : ∃ rn, R.length = rn := ⟨_, rfl⟩
        have HR9 := Aside0.mk (H2.out.since S7.out)
        have HRL := Aside0.mk (H1.out.below S7.out.b)
        have hS1 := (Since.refl W7).drew
        have HKP := Aside0.mk (show ∀ w', Since W7 w' → w'.cell? ⟨b, 1, none⟩ = some (.slice Ar rn cr) ∧ Since W7 w' from fun w' hs => ⟨(HR9.out.since hs).c1.trans (by rw [hrn]), hs⟩)
        have HWK := Aside0.mk (fun (Bx : Nat) (w2 : World) (hs : Since W7 w2) (hc : w2.cell? ⟨Bx, 0, none⟩ = some (.pointer (some ⟨br, 0, none⟩))) => show Calls Tryz.prog 28 #[.func (.func 54) #[] #[.pointer (some ⟨Bx, 0, none⟩)], .slice Ar rn cr] w2 (fun e w' => e = .returned (.bool true) ∧ Below w2.heap.size w2 w') from by
          have hr2 := HRL.out.below hs.b
          have h := walked_calls w2 _ _ rall_enters R (fun x hx => hr2.hR.nt x hx) (fun x hx => by have := hr2.hR.wd x hx; omega) hr2.hR.le (rall_seq hr2 Bx hc) Ar cr R (HR9.out.since hs).C
          rw [decide_eq_true rfl, hrn] at h
          exact h)
        obtain ⟨q1, _⟩ := HKP.out W7 (Since.refl W7)
        clear hrn
        go_region_held3 (fun w' => w'.cell? ⟨b, 1, none⟩ = some (.slice Ar rn cr) ∧ Since W7 w')
          (first | exact HKP.out _ hS1 | exact HKP.out _ (Since.refl _) | (go_split_ands; first | exact HKP.out _ (by assumption) | exact HKP.out _ (Since.step (by assumption) (by assumption)) | exact HKP.out _ (Since.alloc (by assumption) _)))
          (first
          | (go_at_call 25; refine (rall_calls _ (.pointer (some ⟨br, 0, none⟩)) ⟨_, rfl⟩).mono ?_; rintro e wA ⟨rfl, rfl⟩)
          | (go_at_call 28; ((with_reducible refine (HWK.out _ _ ?s1 ?b1).mono ?_)); (case s1 => (go_split_ands; first | assumption | exact Since.alloc (by assumption) _)); (case b1 => exact (Tup.cell_of_heap (heap_alloc_new _ (.cells #[.pointer (some ⟨br, 0, none⟩)] 24)) 0).trans rfl); rintro e w10 ⟨rfl, hb10⟩))
        have hs13 : Since W7 w10 := by go_split_ands; first | assumption | exact Since.step (by assumption) hb10
        clear hb10
        gi_wp2
        have hfin : Below W.heap.size W w10 := below_then HLW.out HLW.out.size (S7.out.trans hs13).b
        refine ⟨by simp, .inl ⟨_, _, rfl, run_takeDeferred (blk hs13.b HK.out), ?_⟩⟩
        exact ⟨_, results_tmp rfl _ _ _, rfl, hfin.grown (grownBy_putObj' w10 D (.deferred none)) hfin.size (fun k e => by cases e; have := HD.out; have := HLW.out.size; omega)⟩
      case stop =>
        rintro N D c pre W _ _ _ h _
        exact h.elim
end Go.Proofs.YtcmllllbmgcnlaaGreat.Rl
end
section
namespace Go.Proofs.YtcmllllbmgcnlaaGreat.Rl
open Go.RowKit Go.Lib Go.Shelf Go.Proofs.YtcmllllbmgcnlaaGreat.G Go.Proofs.YtcmllllbmgcnlaaGreat.Tup Go.Proofs.YtcmllllbmgcnlaaGreatW Go.Proofs.YtcmllllbmgcnlaaGreatW.PrintWords Go.Proofs.YtcmllllbmgcnlaaGreatW.PrintLast Go.Proofs.YtcmllllbmgcnlaaGreatW.PrintMore
open Go.Proofs.YtcmllllbmgcnlaaGreat.Ch (rwrongS)
set_option linter.unusedVariables false
set_option linter.unusedSimpArgs false
set_option maxHeartbeats 4000000 in
set_option maxRecDepth 100000 in
theorem own_no (W : World) (width : Int) (hz : rwrongS width [1] ≠ 0) (A1 : Option Addr) (c1 n : Nat) :
    Calls Tryz.prog 8 #[.int .i64 width, .slice A1 n c1] W fun e w' => e = .returned (.bool true) ∧ Below W.heap.size W w' := by
  have HN := Aside0.mk (fun (w : World) => new_any (w.alloc (.cells #[.int .i64 1] 3)) width _ 1 [1] (sl1_new w 1))
  have HM := Aside0.mk (fun (w : World) => rnew7_no (w.alloc (.cells #[.int .i64 1] 3)) width _ 1 [1] (sl1_new w 1) hz)
  obtain ⟨z, hzz⟩ : ∃ z, z = rwrongS width [1] := ⟨_, rfl⟩
  rw [← hzz] at HN HM hz
  have y0 : (z != 0) = true := by simpa using hz
  have y1 : (z != z) = false := by simp
  have y2 : (z == z) = true := by simp
  clear hzz hz
  go_enter Tryz.func8, Tryz.ntmps8
  go_wp2_with (first
    | (go_at_call 12; refine (alive_calls _).mono ?_; rintro e w1 ⟨rfl, hb1⟩; have HS1 := Aside0.mk (Since.mk hb1); clear hb1)
    | (go_at_call 11; refine (HN.out w1).mono ?_; rintro e w2 ⟨a0, rfl, hb2⟩; have HS2 := Aside0.mk ((HS1.out.alloc _).step hb2); clear hb2)
    | (go_at_call 26; refine (HM.out w2).mono ?_; rintro e w3 ⟨rfl, hb3⟩; have HS3 := Aside0.mk (((HS2.out.alloc _).step hb3).alloc (.cells #[.int .i64 0, .slice none 0 0] 64)); clear hb3))
  go_ret
  exact ⟨rfl, HS3.out.b⟩
set_option maxHeartbeats 4000000 in
set_option maxRecDepth 100000 in
theorem own_many (W : World) (width : Int) (hz : rwrongS width [1] = 0) (A1 : Option Addr) (c1 n : Nat) (hn : 200 < n) :
    Calls Tryz.prog 8 #[.int .i64 width, .slice A1 n c1] W fun e w' => e = .returned (.bool true) ∧ Below W.heap.size W w' := by
  have HN := Aside0.mk (fun (w : World) => new_any (w.alloc (.cells #[.int .i64 1] 3)) width _ 1 [1] (sl1_new w 1))
  have HM := Aside0.mk (fun (w : World) => rnew7_yes (w.alloc (.cells #[.int .i64 1] 3)) width _ 1 [1] (sl1_new w 1) hz)
  rw [hz] at HN
  have e5 : decide ((n : Int) > 200) = true := decide_eq_true (by omega)
  have e6 : (n : Int) > 200 := by omega
  clear hz hn
  go_enter Tryz.func8, Tryz.ntmps8
  go_wp2_with (first
    | (go_at_call 12; refine (alive_calls _).mono ?_; rintro e w1 ⟨rfl, hb1⟩; have HS1 := Aside0.mk (Since.mk hb1); clear hb1)
    | (go_at_call 11; refine (HN.out w1).mono ?_; rintro e w2 ⟨a0, rfl, hb2⟩; have HS2 := Aside0.mk ((HS1.out.alloc _).step hb2); clear hb2)
    | (go_at_call 26; refine (HM.out w2).mono ?_; rintro e w3 ⟨rfl, hb3⟩; have HS3 := Aside0.mk (((HS2.out.alloc _).step hb3).alloc (.cells #[.int .i64 width, .slice none 0 0] 64)); clear hb3))
  go_ret
  exact ⟨rfl, HS3.out.b⟩
theorem width_own {width : Int} {l : List Int} (h : rwrongS width l = 0) : ∃ wd : Nat, width = wd ∧ wd ≤ 8 := by
  unfold Go.Proofs.YtcmllllbmgcnlaaGreat.Ch.rwrongS at h
  split at h
  · cases h
  · exact ⟨width.toNat, by omega, by omega⟩
theorem relOwn_calls {W : World} (width : Int) (hw : (Lit.int .i64 width).wf = true) (A2 : Option Addr) (c2 : Nat) (ls : List (List Int)) (hs : Rs W A2 c2 ls) (hz : (∀ t ∈ ls, t.length * 8 ≤ 140737488351232) ∧ ls.length * 24 ≤ 140737488351232) (W' : World) (e : W' = W) :
    Calls Tryz.prog 8 #[.int .i64 width, .slice A2 ls.length c2] W' fun e w' => e = .returned (.bool true) ∧ Below W.heap.size W w' := by
  subst e
  by_cases hok : rwrongS width [1] = 0
  · by_cases hn : 200 < ls.length
    · exact own_many W' width hok A2 c2 ls.length hn
    · obtain ⟨wd, rfl, h8⟩ := width_own hok
      exact own_main W' wd hok h8 A2 c2 ls.length ls hs.C hz.1 hs.le (by omega)
  · exact own_no W' width hok A2 c2 ls.length
end Go.Proofs.YtcmllllbmgcnlaaGreat.Rl
end
