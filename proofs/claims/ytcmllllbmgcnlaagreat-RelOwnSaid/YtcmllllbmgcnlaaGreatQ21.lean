/- Own texts, joined and cut to what the claim stands on: BtRange, BtIter, BtNew. -/
import Derived.Test.YtcmllllbmgcnlaaGreatQ20
import Derived.Test.YtcmllllbmgcnlaaGreatQ19
section
namespace Go.Proofs.YtcmllllbmgcnlaaGreat.Tup
open Go.RowKit Go.Lib Go.Shelf Go.Proofs.YtcmllllbmgcnlaaGreat.G Go.Proofs.YtcmllllbmgcnlaaGreatW.PrintWords Go.Proofs.YtcmllllbmgcnlaaGreatW.PrintLast Go.Proofs.YtcmllllbmgcnlaaGreatW.PrintMore
set_option linter.unusedVariables false
set_option linter.unusedSimpArgs false
attribute [local go_sem] Oper.semAt_some
theorem Handed1.later {W0 W1 W2 : World} {A : Option Addr} {c : Nat} {x : Tp} (h : Handed1 W0 W1 A c x) (hb : Below W1.heap.size W1 W2) : Handed1 W0 W2 A c x :=
  ⟨below_then h.1 h.1.size hb, own_move h.2 fun k hk => hb.block k (own_lt h.2 k hk.symm)⟩
set_option maxRecDepth 100000 in
set_option maxHeartbeats 1000000 in
theorem yieldR_in (F : Fence) (hd : F.depth = none) (hF : ∀ f, F.fn f) (hro : F.round = none) (l : Nat) (fp : Nat → Prop) (J Jx : List Tp → World → Prop) (xs : List Tp) (B5 B3 B2 B4 : Nat) (Ao : Option Addr) (co : Nat) (o : Tp) (k : Int) (Ak : Option Addr) (ck : Nat) (key : Tp)
    (hhd : ∀ n W A c x, Sl W Ao co o → Sl W A c x → Sl W Ak ck key → CallsIn F n Tryz.prog 78 #[.slice Ao o.length co, .int .i64 k, .slice A x.length c, .slice Ak key.length ck] W fun e w' => e = .returned (.bool (headS o k x key)) ∧ Below W.heap.size W w')
    (hR : Rounds F Tryz.prog l J Jx fp xs) (m : Nat) (pre : List Tp) (x : Tp) (A : Option Addr) (c : Nat) (W0 W1 : World) (c5 : W1.cell? ⟨B5, 0, none⟩ = some (.slice Ao o.length co)) (c3 : W1.cell? ⟨B3, 0, none⟩ = some (.int .i64 k)) (c2 : W1.cell? ⟨B2, 0, none⟩ = some (.slice Ak key.length ck)) (c4 : W1.cell? ⟨B4, 0, none⟩ = some (.func (.yield l) #[] #[])) (so : Sl W1 Ao co o) (sk : Sl W1 Ak ck key)
    (hJ : J pre W0) (hpre : headS o k x key = true → pre ++ [x] <+: xs) (hh : Handed1 W0 W1 A c x) :
    CallsIn F m Tryz.prog 77 #[.slice A x.length c, .pointer (some ⟨B5, 0, none⟩), .pointer (some ⟨B3, 0, none⟩), .pointer (some ⟨B2, 0, none⟩), .pointer (some ⟨B4, 0, none⟩)] W1 fun e W' =>
      (e = .returned (.bool true) ∧ headS o k x key = true ∧ J (pre ++ [x]) W' ∧ KpF fp W1 W') ∨ (e = .returned (.bool false) ∧ ((headS o k x key = true ∧ Jx (pre ++ [x]) W') ∨ (headS o k x key = false ∧ Below W1.heap.size W1 W'))) := by
  have hdd : ∀ k : Nat, (F.depth.isSome = true → 1 ≤ k) := fun k h => by rw [hd] at h; cases h
  have HC := Aside0.mk (hhd (m - 1) W1 A c x so hh.sl sk)
  have HR := Aside0.mk hR
  have HH := Aside0.mk hh
  have HJ := Aside0.mk hJ
  have HP := Aside0.mk hpre
  clear hhd hR hh hJ hpre so sk
  by_cases hx : headS o k x key = true
  · rw [hx] at HC
    have HX := Aside0.mk hx
    clear hx
    refine callsIn_of_wp Tryz.func77 rfl (hF _) ?_ hro
    simp only [Tryz.ntmps77, List.size_toArray, List.length_cons, List.length_nil, Nat.reduceAdd, Nat.reduceSub, Array.replicate_succ, Array.replicate_zero, List.push_toArray, List.append_toArray, List.nil_append, List.cons_append]
    gi_wp2_with (first
      | ((try refine ⟨hdd _, ?_⟩); gi_at_call 78; refine HC.out.mono ?_; clear HC; rintro e w2 ⟨rfl, hb⟩; have c4b := pw_cell_below hb c4; obtain ⟨fn, tmps, assign, body, hy, hRo⟩ := HR.out (m - 1) pre x A c W0 w2 HJ.out (HP.out HX.out) (HH.out.later hb); have HB := Aside0.mk hb; clear hb)
      | ((try refine ⟨hdd _, ?_⟩); refine hRo.mono ?_; clear hRo; rintro e w3 (⟨rfl, hJ3, hk3⟩ | ⟨rfl, hx3⟩)))
    · go_ret
      exact .inl ⟨rfl, HX.out, hJ3, (KpF.below HB.out).trans hk3⟩
    · go_ret
      exact .inr ⟨rfl, .inl ⟨HX.out, hx3⟩⟩
  · have hx2 : headS o k x key = false := by simpa using hx
    rw [hx2] at HC
    have HX := Aside0.mk hx2
    clear hx hx2
    refine callsIn_of_wp Tryz.func77 rfl (hF _) ?_ hro
    simp only [Tryz.ntmps77, List.size_toArray, List.length_cons, List.length_nil, Nat.reduceAdd, Nat.reduceSub, Array.replicate_succ, Array.replicate_zero, List.push_toArray, List.append_toArray, List.nil_append, List.cons_append]
    gi_wp2_with (first
      | ((try refine ⟨hdd _, ?_⟩); gi_at_call 78; refine HC.out.mono ?_; clear HC; rintro e w2 ⟨rfl, hb⟩; have HB := Aside0.mk hb; clear hb))
    go_ret
    exact .inr ⟨rfl, .inr ⟨HX.out, HB.out⟩⟩
def rangeL (o : Tp) (k : Int) (key : Tp) (L : List Tp) : List Tp := if key.length = o.length then (sel (pR o k key) L).takeWhile (fun x => headS o k x key) else []
set_option maxRecDepth 100000 in
set_option maxHeartbeats 1000000 in
theorem range1_in (F : Fence) (hd : F.depth = none) (hF : ∀ f, F.fn f) (hro : F.round = none) (l : Nat) (W : World) (Bs Bk Bi bs rt : Nat) (Ao : Option Addr) (co : Nat) (o : Tp) (Ak : Option Addr) (ck : Nat) (key : Tp) (hBs : W.cell? ⟨Bs, 0, none⟩ = some (.pointer (some ⟨bs, 0, none⟩))) (hBk : W.cell? ⟨Bk, 0, none⟩ = some (.slice Ak key.length ck)) (h0 : W.cell? ⟨bs, 0, none⟩ = some (.bool true)) (h1 : W.cell? ⟨bs, 1, none⟩ = some (.slice Ao o.length co)) (h2 : W.cell? ⟨bs, 2, none⟩ = some (.pointer (some ⟨rt, 0, none⟩))) (R : World → Prop)
    (hfit : ∀ n W, W.cell? ⟨bs, 0, none⟩ = some (.bool true) → W.cell? ⟨bs, 1, none⟩ = some (.slice Ao o.length co) → CallsIn F n Tryz.prog 65 #[.pointer (some ⟨bs, 0, none⟩), .slice Ak key.length ck] W fun e w' => e = .returned (.bool (decide (key.length = o.length))) ∧ W = w')
    (hno : key.length ≠ o.length → ∀ W', Below W.heap.size W W' → R W')
    (hw : key.length = o.length → ∀ n Ww, Below W.heap.size W Ww → Ww.cell? ⟨W.heap.size, 0, none⟩ = some (.func (.yield l) #[] #[]) → Ww.cell? ⟨W.heap.size + 1, 0, none⟩ = some (.slice Ao o.length co) → W.heap.size + 2 ≤ Ww.heap.size → CallsIn F n Tryz.prog 76 #[.pointer (some ⟨rt, 0, none⟩), .func (.func 75) #[] #[.pointer (some ⟨W.heap.size + 1, 0, none⟩), .pointer (some ⟨Bi, 0, none⟩), .pointer (some ⟨Bk, 0, none⟩)], .func (.func 77) #[] #[.pointer (some ⟨W.heap.size + 1, 0, none⟩), .pointer (some ⟨Bi, 0, none⟩), .pointer (some ⟨Bk, 0, none⟩), .pointer (some ⟨W.heap.size, 0, none⟩)]] Ww fun e w' => (∃ b, e = .returned (.bool b)) ∧ R w') (n : Nat) :
    CallsIn F n Tryz.prog 74 #[.func (.yield l) #[] #[], .pointer (some ⟨Bs, 0, none⟩), .pointer (some ⟨Bk, 0, none⟩), .pointer (some ⟨Bi, 0, none⟩)] W fun e W' => (∃ v, e = .returned v) ∧ R W' := by
  have hdd : ∀ k : Nat, (F.depth.isSome = true → 1 ≤ k) := fun k h => by rw [hd] at h; cases h
  have hb1 : Below W.heap.size W (W.alloc (.cells #[.func (.yield l) #[] #[]] 111)) := below_alloc (Below.refl _ _) _
  have q1 := pw_cell_below hb1 hBs
  have q2 := pw_cell_below hb1 hBk
  have q3 := pw_cell_below hb1 h0
  have q4 := pw_cell_below hb1 h1
  have HF := Aside0.mk hfit
  have HNO := Aside0.mk hno
  have HW := Aside0.mk hw
  have hfc := HF.out (n - 1) _ q3 q4
  clear hfit hno hw
  by_cases hk : key.length = o.length
  · have hdec := decide_eq_true hk
    rw [hdec] at hfc
    have HK := Aside0.mk hk
    clear hdec hk
    refine callsIn_of_wp Tryz.func74 rfl (hF _) ?_ hro
    simp only [Tryz.ntmps74, List.size_toArray, List.length_cons, List.length_nil, Nat.reduceAdd, Nat.reduceSub, Array.replicate_succ, Array.replicate_zero, List.push_toArray, List.append_toArray, List.nil_append, List.cons_append]
    have hbw : Below W.heap.size W ((W.alloc (.cells #[.func (.yield l) #[] #[]] 111)).alloc (.cells #[.slice Ao o.length co] 23)) := below_alloc hb1 _
    have q5 := pw_cell_below hbw hBs
    have q6 := pw_cell_below hbw h2
    have HBW := Aside0.mk hbw
    have HC4 := Aside0.mk (show ((W.alloc (.cells #[.func (.yield l) #[] #[]] 111)).alloc (.cells #[.slice Ao o.length co] 23)).cell? ⟨W.heap.size, 0, none⟩ = some (.func (.yield l) #[] #[]) from
      (cell_of_heap (blk (below_alloc (Below.refl _ _) _) (heap_alloc_new W (.cells #[.func (.yield l) #[] #[]] 111))) 0).trans rfl)
    have HC5 := Aside0.mk (show ((W.alloc (.cells #[.func (.yield l) #[] #[]] 111)).alloc (.cells #[.slice Ao o.length co] 23)).cell? ⟨W.heap.size + 1, 0, none⟩ = some (.slice Ao o.length co) from by
      have := heap_alloc_new (W.alloc (.cells #[.func (.yield l) #[] #[]] 111)) (.cells #[.slice Ao o.length co] 23)
      rw [World.size_alloc] at this
      exact (cell_of_heap this 0).trans rfl)
    have HSZ : Aside0 (W.heap.size + 2 ≤ ((W.alloc (.cells #[.func (.yield l) #[] #[]] 111)).alloc (.cells #[.slice Ao o.length co] 23)).heap.size) := ⟨by simp⟩
    clear hbw
    gi_wp2_with (first
      | ((try refine ⟨hdd _, ?_⟩); gi_at_call 65; refine hfc.mono ?_; clear hfc; rintro e w1 ⟨rfl, rfl⟩)
      | ((try refine ⟨hdd _, ?_⟩); gi_at_call 76; refine (HW.out HK.out _ _ HBW.out HC4.out HC5.out HSZ.out).mono ?_; rintro e w3 ⟨⟨b, rfl⟩, hR3⟩))
    go_end0
    exact ⟨⟨_, rfl⟩, hR3⟩
  · have hdec := decide_eq_false hk
    rw [hdec] at hfc
    have HK := Aside0.mk hk
    clear hdec hk
    refine callsIn_of_wp Tryz.func74 rfl (hF _) ?_ hro
    simp only [Tryz.ntmps74, List.size_toArray, List.length_cons, List.length_nil, Nat.reduceAdd, Nat.reduceSub, Array.replicate_succ, Array.replicate_zero, List.push_toArray, List.append_toArray, List.nil_append, List.cons_append]
    gi_wp2_with (first
      | ((try refine ⟨hdd _, ?_⟩); gi_at_call 65; refine hfc.mono ?_; clear hfc; rintro e w1 ⟨rfl, rfl⟩))
    refine bodyPost_ret (results_none rfl _ _ _) rfl ?_
    exact ⟨⟨_, rfl⟩, HNO.out HK.out _ hb1⟩
theorem pR_closed {o : Tp} {k : Int} {key x y : Tp} (hxy : Lt o x y) (hy : pR o k key y = true) : pR o k key x = true := by
  have hy' : cmpL (o.take k.toNat) y key < 0 := by simpa [pR] using hy
  have h1 : cmpL (o.take k.toNat) x y ≤ 0 := by
    have : ∀ (o : Tp) (m : Nat), cmpL o x y ≤ 0 → cmpL (o.take m) x y ≤ 0 := by
      intro o
      induction o with
      | nil => intro m h; simpa using h
      | cons c o ih =>
        intro m h
        cases m with
        | zero => simp [cmpL]
        | succ m =>
          simp only [List.take_succ_cons, cmpL] at h ⊢
          by_cases p1 : rd x c < rd y c
          · rw [if_pos p1]; decide
          · rw [if_neg p1] at h ⊢
            by_cases p2 : rd x c > rd y c
            · rw [if_pos p2] at h; omega
            · rw [if_neg p2] at h ⊢; exact ih m h
    exact this o _ (by have : cmpL o x y < 0 := hxy; omega)
  have h2 := cmpL_trans (o.take k.toNat) x y key h1 (by omega)
  have h3 : cmpL (o.take k.toNat) x key ≠ 0 := by
    intro h0
    have h4 : cmpL (o.take k.toNat) key x = 0 := by rw [cmpL_flip, h0]; rfl
    have h5 := cmpL_trans (o.take k.toNat) key x y (by omega) h1
    have h6 := cmpL_flip (o.take k.toNat) y key
    omega
  simp [pR]; omega
theorem take_pre {α : Type} (p : α → Bool) {pre L : List α} (h : pre <+: L) (ha : ∀ a ∈ pre, p a = true) : pre <+: L.takeWhile p := by
  obtain ⟨r, rfl⟩ := h
  rw [List.takeWhile_append_of_pos ha]
  exact List.prefix_append _ _
theorem take_stop {α : Type} (p : α → Bool) {pre L : List α} {x : α} (h : pre ++ [x] <+: L) (ha : ∀ a ∈ pre, p a = true) (hx : p x = false) : L.takeWhile p = pre := by
  obtain ⟨r, rfl⟩ := h
  rw [List.append_assoc, List.takeWhile_append_of_pos ha]
  simp [hx]
theorem take_all {α : Type} (p : α → Bool) {L : List α} (ha : ∀ a ∈ L, p a = true) : L.takeWhile p = L := by
  have := List.takeWhile_append_of_pos (p := p) (l₁ := L) (l₂ := []) ha
  simpa using this
theorem range_seq {ok fp : Nat → Prop} (w : World) (Bs Bk Bi bs : Nat) {A : Option Addr} {c : Nat} {o : Tp} {rt : Nat} {T : BT} (h : SetAt ok w bs A c o rt T) (hfp : ∀ k, ok k → fp k) (hBs : w.cell? ⟨Bs, 0, none⟩ = some (.pointer (some ⟨bs, 0, none⟩))) (Ak : Option Addr) (ck : Nat) (key : Tp) (hBk : w.cell? ⟨Bk, 0, none⟩ = some (.slice Ak key.length ck)) (fBk : fp Bk) (hck : key.length ≤ ck) (hkey : Kd.F (Kd.int .i64) w fp Ak key.length key) (k : Int) (hBi : w.cell? ⟨Bi, 0, none⟩ = some (.int .i64 k)) (fBi : fp Bi) :
    SeqR Fence.wide Tryz.prog 74 #[.pointer (some ⟨Bs, 0, none⟩), .pointer (some ⟨Bk, 0, none⟩), .pointer (some ⟨Bi, 0, none⟩)] fp (rangeL o k key T.io) w := by
  intro l J Jx W hW hJ hJx hR h0 n
  have hs := h.since ⟨hW⟩
  have hBkW := pw_cell_below hW hBk
  have hBiW := pw_cell_below hW hBi
  refine range1_in Fence.wide rfl (fun _ => trivial) rfl l W Bs Bk Bi bs rt A c o Ak ck key (pw_cell_below hW hBs) hBkW hs.c0 hs.c1 hs.c2 _ (fun n W a b => callsIn_wide.2 (fits_calls W bs A c o a b Ak ck key)) (fun hl W' hb => ⟨W'.heap.size, hb.size, .inl (by rw [rangeL, if_neg hl]; exact h0 W' hb)⟩) (fun hl n Ww hb c4 c5 hsz => ?_) n
  have hxs : rangeL o k key T.io = (sel (pR o k key) T.io).takeWhile (fun x => headS o k x key) := by rw [rangeL, if_pos hl]
  rw [hxs] at hR ⊢
  have hsw := hs.since ⟨hb⟩
  have hkW : Kd.F (Kd.int .i64) Ww (Priv fp W.heap.size Ww.heap.size) Ak key.length key := Kd.F_mono (Kd.F_below (Kd.F_below hkey hW) hb) (fun k hk => .inl hk)
  have hoW : Kd.F (Kd.int .i64) Ww (Priv fp W.heap.size Ww.heap.size) A o.length o := Kd.F_mono hsw.F (fun k hk => .inl (hfp k hk))
  have p5 : Priv fp W.heap.size Ww.heap.size (W.heap.size + 1) := .inr ⟨by omega, by omega⟩
  have p4 : Priv fp W.heap.size Ww.heap.size W.heap.size := .inr ⟨by omega, by omega⟩
  have c3 := pw_cell_below hb hBiW
  have c2 := pw_cell_below hb hBkW
  have hRN := hR Ww.heap.size (by omega)
  have hJN := hJ Ww.heap.size (by omega)
  have := walkR_in (W.heap.size + 1) Bi Bk W.heap.size Fence.wide rfl (fun _ => trivial) rfl l (Priv fp W.heap.size Ww.heap.size) (fun pre V => J Ww.heap.size pre V ∧ ∀ a ∈ pre, headS o k a key = true) (fun q V => (Jx Ww.heap.size q V ∧ q <+: (sel (pR o k key) T.io).takeWhile (fun x => headS o k x key)) ∨ J Ww.heap.size ((sel (pR o k key) T.io).takeWhile (fun x => headS o k x key)) V) (sel (pR o k key) T.io) o (pR o k key) Ww (fun a => a.length = o.length) (fun a ha => by have := hs.rto.1; omega) clone_wide
    (fun n V A2 c2' x hK hQ hsl => callsIn_wide.2 (belowR_calls V _ _ _ A c o k Ak ck key (hK.cell p5 c5) (hK.cell (.inl fBi) c3) (hK.cell (.inl fBk) c2) ⟨Kd.F_now (Kd.F_step hoW hK.same), hs.so⟩ ⟨Kd.F_now (Kd.F_step hkW hK.same), hck⟩ hs.rto hl A2 c2' x hsl hQ))
    (fun s V V' hj hb => ⟨abides_none hJN s V V' hj.1 hb, hj.2⟩)
    (fun m pre x A2 c2' V0 V1 hK hj hpre hh => by
      refine (yieldR_in Fence.wide rfl (fun _ => trivial) rfl l (Priv fp W.heap.size Ww.heap.size) (J Ww.heap.size) (Jx Ww.heap.size) _ (W.heap.size + 1) Bi Bk W.heap.size A c o k Ak ck key (fun n V A3 c3 x so sx sk => callsIn_wide.2 (head_calls A c o k A3 c3 x Ak ck key V so sx sk)) hRN m pre x A2 c2' V0 V1 (hK.cell p5 c5) (hK.cell (.inl fBi) c3) (hK.cell (.inl fBk) c2) (hK.cell p4 c4) ⟨Kd.F_now (Kd.F_step hoW hK.same), hs.so⟩ ⟨Kd.F_now (Kd.F_step hkW hK.same), hck⟩ hj.1 (fun hx => take_pre _ hpre (fun a ha => by
        rcases List.mem_append.1 ha with ha | ha
        · exact hj.2 a ha
        · simp at ha; subst ha; exact hx)) hh).mono ?_
      rintro e V' (⟨rfl, hx, hJ', hk'⟩ | ⟨rfl, ⟨hx, hx'⟩ | ⟨hx, hb'⟩⟩)
      · exact .inl ⟨rfl, ⟨hJ', fun a ha => by
          rcases List.mem_append.1 ha with ha | ha
          · exact hj.2 a ha
          · simp at ha; subst ha; exact hx⟩, hk'⟩
      · exact .inr ⟨rfl, .inl ⟨hx', take_pre _ hpre (fun a ha => by
          rcases List.mem_append.1 ha with ha | ha
          · exact hj.2 a ha
          · simp at ha; subst ha; exact hx)⟩⟩
      · refine .inr ⟨rfl, .inr ?_⟩
        rw [take_stop _ hpre hj.2 hx]
        exact abides_none hJN _ _ _ hj.1 (below_then hh.1 hh.1.size hb'))
    _ T (Nat.lt_succ_self _) n rt [] Ww (hsw.nd.mono fun k hk => .inl (hfp k hk)) hsw.wf hsw.up (fun x y _ _ hxy hy => pR_closed hxy hy) (fun a ha => (hs.fit a ha).1) hs.le (KpF.refl _ _) ⟨h0 Ww hb, fun a ha => by simp at ha⟩ (by simp)
  refine this.mono ?_
  rintro e V' (⟨rfl, ⟨hj, hall⟩, hk⟩ | ⟨rfl, q, hq, hx⟩)
  · refine ⟨⟨_, rfl⟩, Ww.heap.size, by omega, .inl ?_⟩
    rw [List.nil_append] at hj hall
    rw [take_all _ hall]; exact hj
  · refine ⟨⟨_, rfl⟩, Ww.heap.size, by omega, ?_⟩
    rcases hx with ⟨hx, hp⟩ | hx
    · exact .inr ⟨_, hp, hx⟩
    · exact .inl hx
end Go.Proofs.YtcmllllbmgcnlaaGreat.Tup
end
section
namespace Go.Proofs.YtcmllllbmgcnlaaGreat.Tup
open Go.RowKit Go.Lib Go.Shelf Go.Proofs.YtcmllllbmgcnlaaGreat.G Go.Proofs.YtcmllllbmgcnlaaGreatW.PrintWords Go.Proofs.YtcmllllbmgcnlaaGreatW.PrintLast Go.Proofs.YtcmllllbmgcnlaaGreatW.PrintMore
set_option linter.unusedVariables false
set_option linter.unusedSimpArgs false
def RangeC (W : World) (v : Value) (k : Int) (t : Tp) (e : Ending) (w' : World) : Prop :=
  ∃ Bs Bk Bi Ak ck, e = .returned (.func (.func 74) #[] #[.pointer (some ⟨Bs, 0, none⟩), .pointer (some ⟨Bk, 0, none⟩), .pointer (some ⟨Bi, 0, none⟩)]) ∧ w'.cell? ⟨Bs, 0, none⟩ = some v ∧ w'.cell? ⟨Bi, 0, none⟩ = some (.int .i64 k) ∧ w'.cell? ⟨Bk, 0, none⟩ = some (.slice Ak t.length ck) ∧ t.length ≤ ck ∧ Kd.F (Kd.int .i64) w' (fun j => W.heap.size ≤ j) Ak t.length t ∧ Below W.heap.size W w'
set_option maxHeartbeats 2000000 in
set_option maxRecDepth 100000 in
theorem rangec_calls (W : World) (p : Option Addr) (k : Int) (At : Option Addr) (ct : Nat) (t : Tp) (st : Sl W At ct t) (hn : t.length ≤ 1000000) :
    Calls Tryz.prog 49 #[.pointer p, .int .i64 k, .slice At t.length ct] W (RangeC W (.pointer p) k t) := by
  have HST := Aside0.mk st
  have HN := Aside0.mk hn
  clear st hn
  have hb2 : Below W.heap.size W ((W.alloc (.cells #[.pointer p] 99)).alloc (.cells #[.int .i64 k] 3)) := below_alloc (below_alloc (Below.refl _ _) _) _
  have HB2 := Aside0.mk hb2
  have HS2 := Aside0.mk (Sl.below HST.out hb2)
  clear hb2
  go_enter Tryz.func49, Tryz.ntmps49
  go_wp2_with (go_at_call 44; ((with_reducible refine (cloneI_calls _ At ct t HS2.out HN.out).mono ?_)); rintro e w2 ⟨A2, c2, rfl, hc2, hF2, hb2⟩)
  go_ret
  have hlt : ((W.alloc (.cells #[.pointer p] 99)).alloc (.cells #[.int .i64 k] 3)).heap.size = W.heap.size + 2 := by simp
  have hbw : Below W.heap.size W w2 := below_then HB2.out HB2.out.size hb2
  have a3 := below_alloc (Below.refl w2.heap.size w2) (.cells #[.slice A2 t.length c2] 23)
  refine ⟨W.heap.size, w2.heap.size, W.heap.size + 1, A2, c2, rfl, ?_, ?_, ?_, hc2, Kd.F_mono (Kd.F_below hF2 a3) (fun j hj => by omega), below_then hbw hbw.size a3⟩
  · exact (cell_of_heap (blk a3 (blk hb2 (blk (below_alloc (Below.refl _ _) _) (heap_alloc_new W (.cells #[.pointer p] 99))))) 0).trans rfl
  · have := heap_alloc_new (W.alloc (.cells #[.pointer p] 99)) (.cells #[.int .i64 k] 3)
    rw [World.size_alloc] at this
    exact (cell_of_heap (blk a3 (blk hb2 this)) 0).trans rfl
  · exact (cell_of_heap (heap_alloc_new w2 (.cells #[.slice A2 t.length c2] 23)) 0).trans rfl
theorem sel_len (p : Tp → Bool) (L : List Tp) : (sel p L).length ≤ L.length := List.length_filter_le _ _
theorem rangeL_len (o : Tp) (k : Int) (key : Tp) (L : List Tp) : (rangeL o k key L).length ≤ L.length := by
  unfold rangeL
  split
  · exact Nat.le_trans (List.takeWhile_prefix _).length_le (sel_len _ _)
  · simp
end Go.Proofs.YtcmllllbmgcnlaaGreat.Tup
end
section
namespace Go.Proofs.YtcmllllbmgcnlaaGreat.Tup
open Go.RowKit Go.Lib Go.Shelf Go.Proofs.YtcmllllbmgcnlaaGreat.G Go.Proofs.YtcmllllbmgcnlaaGreatW.PrintWords Go.Proofs.YtcmllllbmgcnlaaGreatW.PrintLast Go.Proofs.YtcmllllbmgcnlaaGreatW.PrintMore
set_option linter.unusedVariables false
set_option linter.unusedSimpArgs false
def NewR (W : World) (o : Tp) (e : Ending) (w' : World) : Prop :=
  Below W.heap.size W w' ∧ ∃ bs A c rt, e = .returned (.tuple #[.pointer (some ⟨bs, 0, none⟩), .int .i64 0]) ∧ W.heap.size ≤ bs ∧ SetAt (fun k => W.heap.size ≤ k ∧ k < w'.heap.size ∧ k ≠ bs) w' bs A c o rt (.mk [] [])
theorem setAt_new {W w2 : World} {A : Option Addr} {c : Nat} {o : Tp} (ho : Rt o) (hb : Below W.heap.size W w2) (hc : o.length ≤ c) (hF : Kd.F (Kd.int .i64) w2 (fun k => W.heap.size ≤ k) A o.length o) :
    let w' := (w2.alloc (.cells #[.slice none 0 0, .slice none 0 0] 132)).alloc (.cells #[.bool true, .slice A o.length c, .pointer (some ⟨w2.heap.size, 0, none⟩), .int .i64 0] 128)
    Below W.heap.size W w' ∧ W.heap.size ≤ w2.heap.size + 1 ∧ SetAt (fun k => W.heap.size ≤ k ∧ k < w'.heap.size ∧ k ≠ w2.heap.size + 1) w' (w2.heap.size + 1) A c o w2.heap.size (.mk [] []) := by
  intro w'
  have a1 := below_alloc (Below.refl w2.heap.size w2) (.cells #[.slice none 0 0, .slice none 0 0] 132)
  have z1 : (w2.alloc (.cells #[.slice none 0 0, .slice none 0 0] 132)).heap.size = w2.heap.size + 1 := by simp
  have a2 := below_alloc (Below.refl (w2.alloc (.cells #[.slice none 0 0, .slice none 0 0] 132)).heap.size (w2.alloc (.cells #[.slice none 0 0, .slice none 0 0] 132))) (.cells #[.bool true, .slice A o.length c, .pointer (some ⟨w2.heap.size, 0, none⟩), .int .i64 0] 128)
  have hs2 : W.heap.size ≤ w2.heap.size := hb.size
  have zz : w'.heap.size = w2.heap.size + 2 := by simp [w']
  have hbw : Below w2.heap.size w2 w' := below_then a1 a1.size a2
  have hn : w'.heap[w2.heap.size]? = some (.cells #[.slice none 0 0, .slice none 0 0] 132 (0, 0)) := blk a2 (heap_alloc_new w2 _)
  have hp : w'.heap[w2.heap.size + 1]? = some (.cells #[.bool true, .slice A o.length c, .pointer (some ⟨w2.heap.size, 0, none⟩), .int .i64 0] 128 (0, 0)) := by
    have := heap_alloc_new (w2.alloc (.cells #[.slice none 0 0, .slice none 0 0] 132)) (.cells #[.bool true, .slice A o.length c, .pointer (some ⟨w2.heap.size, 0, none⟩), .int .i64 0] 128)
    rw [z1] at this; exact this
  refine ⟨below_then hb hb.size hbw, by omega, ⟨by rw [BT.io_mk]; exact hp, hc, ?_, ?_, (BT.ok_mk _ _).2 ⟨.inl rfl, by simp⟩, ho, fun a ha => by rw [BT.io_mk] at ha; simp [weave] at ha, by rw [BT.io_mk]; exact List.Pairwise.nil, by rw [BT.io_mk]; simp [weave], fun h => h.2.2 rfl⟩⟩
  · refine Kd.F_mono (Kd.F_below (Kd.F_bound hF) hbw) fun k hk => ⟨hk.1, by have := hk.2; omega, by have := hk.2; omega⟩
  · exact .mk _ none 0 none 0 [] [] [] ⟨hs2, by omega, by omega⟩ ((cell_of_heap hn 0).trans rfl) ((cell_of_heap hn 1).trans rfl) (Nat.le_refl _) (Nat.le_refl _) rfl (Kd.F_nil KT _ _) (Kd.F_nil KN _ _) (fun i h => by simp at h)
set_option maxHeartbeats 2000000 in
set_option maxRecDepth 100000 in
theorem new_yes (W : World) (A0 : Option Addr) (c0 : Nat) (o : Tp) (h0 : Sl W A0 c0 o) (ho : Rt o) :
    Calls Tryz.prog 63 #[.slice A0 o.length c0] W (NewR W o) := by
  have HR := Aside0.mk (right_calls A0 c0 o W h0)
  rw [decide_eq_true ho] at HR
  have HO := Aside0.mk ho
  have H0 := Aside0.mk h0
  have HL : Aside0 (o.length ≤ 1000000) := ⟨by have := ho.1; omega⟩
  clear ho h0
  go_enter Tryz.func63, Tryz.ntmps63
  go_wp2_with (first
    | (go_at_call 69; refine HR.out.mono ?_; rintro e w1 ⟨rfl, hd⟩; have hs := Since.ofDrawn hd)
    | (go_at_call 44; ((with_reducible refine (cloneI_calls _ A0 c0 o (hs.sl H0.out) HL.out).mono ?_)); rintro e w2 ⟨A2, c2, rfl, hc2, hF2, hb2⟩))
  go_ret2
  have hq := setAt_new HO.out (hs.step hb2).b hc2 (Kd.F_mono hF2 fun k hk => Nat.le_trans hs.b.size hk)
  exact ⟨hq.1, _, A2, c2, w2.heap.size, rfl, hq.2.1, hq.2.2⟩
end Go.Proofs.YtcmllllbmgcnlaaGreat.Tup
end
