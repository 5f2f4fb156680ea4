/- Own texts, joined and cut to what the claim stands on: RlFind, RlAlive, RlLaw2, RlLaw4. -/
import Derived.Test.YtcmllllbmgcnlaaGreatK30
import Derived.Test.YtcmllllbmgcnlaaGreatK27
import Derived.Test.YtcmllllbmgcnlaaGreatK7
section
namespace Go.Proofs.YtcmllllbmgcnlaaGreat.Rl
open Go.RowKit Go.Lib Go.Shelf Go.Proofs.YtcmllllbmgcnlaaGreat.G Go.Proofs.YtcmllllbmgcnlaaGreat.Tup Go.Proofs.YtcmllllbmgcnlaaGreatW.PrintWords Go.Proofs.YtcmllllbmgcnlaaGreatW.PrintLast Go.Proofs.YtcmllllbmgcnlaaGreatW.PrintMore
open Go.Proofs.YtcmllllbmgcnlaaGreat.Ch (pickS pick_calls)
set_option linter.unusedVariables false
set_option linter.unusedSimpArgs false
theorem pick_at {s : Int} : ∀ (os : List Tp) (i : Nat) (k : Int), pickS s i os = (k, true) → ∃ j, ∃ h : j < os.length, k = ((i + j : Nat) : Int) ∧ (coverS os[j] s).2 = true
  | [], i, k, h => by simp [pickS] at h
  | o :: os, i, k, h => by
    unfold pickS at h
    split at h
    · rename_i hc
      injection h with h _
      exact ⟨0, by simp, by rw [← h]; rfl, hc⟩
    · obtain ⟨j, hj, hk, hc⟩ := pick_at os (i + 1) k h
      exact ⟨j + 1, by simpa using hj, by rw [hk]; congr 1; omega, by simpa using hc⟩
theorem cover_calls (A : Option Addr) (c : Nat) (o : List Int) (s : Int) (w : World) (h : Sl w A c o) : Calls Tryz.prog 47 #[.slice A o.length c, .int .i64 s] w fun e w' => e = .returned (.tuple #[.int .i64 (coverS o s).1, .bool (coverS o s).2]) ∧ Drawn0 w w' :=
  tuple_Cover.calls (o.length + 13) _ _ o _ _ _ w h.C h.le (cover_is _ o s (by omega))
set_option maxHeartbeats 16000000 in
set_option maxRecDepth 100000 in
theorem rfind_served {ok : Nat → Prop} {w : World} {br wd : Nat} {os : List Tp} {R : List Row} {m : Nat} {bss : List Nat} (h : RelAt ok w br wd os R m bss) (Bs Bk Bi : Nat) (hBs : w.cell? ⟨Bs, 0, none⟩ = some (.pointer (some ⟨br, 0, none⟩))) (cols : Int) (hBi : w.cell? ⟨Bi, 0, none⟩ = some (.int .i64 cols)) (Ak : Option Addr) (ck : Nat) (t : Tp) (hBk : w.cell? ⟨Bk, 0, none⟩ = some (.slice Ak t.length ck)) (st : Sl w Ak ck t)
    (ht : t.length = wd) (hc0 : 0 ≤ cols) (hc1 : cols < 2 ^ wd) (hsv : (pickS cols 0 os).2 = true) :
    Seq2R Fence.wide Tryz.prog 45 #[.pointer (some ⟨Bs, 0, none⟩), .pointer (some ⟨Bk, 0, none⟩), .pointer (some ⟨Bi, 0, none⟩)] (findL wd R cols t) w := by
  intro l J Jx W hW hJ hJx hR h0 n
  refine callsIn_wide.2 ?_
  show Calls Tryz.prog 45 #[.func (.yield l) #[] #[], .pointer (some ⟨Bs, 0, none⟩), .pointer (some ⟨Bk, 0, none⟩), .pointer (some ⟨Bi, 0, none⟩)] W (GaveR W.heap.size J Jx (findL wd R cols t))
  have hRW := h.below hW
  have stW := st.below hW
  have cBs := pw_cell_below hW hBs
  have cBk := pw_cell_below hW hBk
  have cBi := pw_cell_below hW hBi
  obtain ⟨Ao, co, As, cs, hp, hco, _, hFo, hFs⟩ := hRW.hp
  have hrc := rec_of hp
  have h0c := hrc.c0
  have h1c := hrc.c1
  have hw8 := hRW.hos.w8
  obtain ⟨pk, hpk⟩ : ∃ pk, pickS cols 0 os = (pk, true) := ⟨_, by rw [← hsv]⟩
  obtain ⟨i, hi, hie, hcv⟩ := pick_at os 0 pk hpk
  rw [Nat.zero_add] at hie
  subst hie
  have hib : i < bss.length := by rw [hRW.len]; exact hi
  obtain ⟨A', c', rt, T, hS, hT⟩ := hRW.sets i hi hib
  obtain ⟨sd, rfl, hcell⟩ := nod_at (Kd.F_now hFs) i hib
  obtain ⟨od, Ai, ci, rfl, hocell, hosl⟩ := tup_at (Kd.F_now hFo) i hi
  obtain ⟨b0, hb0e⟩ : ∃ b, b = bss[i] := ⟨_, rfl⟩
  obtain ⟨o, hoe⟩ : ∃ o, o = os[i] := ⟨_, rfl⟩
  rw [← hb0e] at hcell hS
  rw [← hoe] at hocell hosl hS hcv
  have hoL := (hRW.hos.each o (by rw [hoe]; exact List.getElem_mem hi))
  obtain ⟨kk, hkk⟩ : ∃ kk, coverS o cols = (kk, true) := ⟨_, by rw [← hcv]⟩
  obtain ⟨on, hon⟩ : ∃ on, on = os.length := ⟨_, rfl⟩
  have h2c : W.cell? ⟨br, 2, none⟩ = some (.slice (some od) on co) := hrc.c2.trans (by rw [hon])
  have h3c : W.cell? ⟨br, 3, none⟩ = some (.slice (some sd) on cs) := hrc.c3.trans (by rw [hon])
  have HP := Aside0.mk (fun (w2 : World) (hs : Since W w2) => show Calls Tryz.prog 46 #[.slice (some od) on co, .int .i64 cols] w2 (fun e w' => e = .returned (.tuple #[.int .i64 (i : Int), .bool true]) ∧ Drawn0 w2 w') from by
    have := pick_calls (some od) co os cols w2 (Kd.C_below (Kd.F_now hFo) hs.b) hco (by have := hRW.hos.n; omega)
    rw [hpk, ← hon] at this
    exact this)
  have HC := Aside0.mk (fun (w2 : World) (hs : Since W w2) => show Calls Tryz.prog 47 #[.slice Ai o.length ci, .int .i64 cols] w2 (fun e w' => e = .returned (.tuple #[.int .i64 kk, .bool true]) ∧ Drawn0 w2 w') from by
    have := cover_calls Ai ci o cols w2 (hosl.below hs.b)
    rw [hkk] at this
    exact this)
  have HRg := Aside0.mk (fun (w2 : World) (hs : Since W w2) => rangec_calls w2 (some ⟨b0, 0, none⟩) kk Ak ck t (stW.below hs.b) (by omega))
  have hnl := notedL_find hRW.hR hoL.2 hoL.1 hS.fit hS.up hT hkk ht hc0 hc1
  have HN := Aside0.mk (fun (w2 w3 : World) (hs : Since W w2) (e : Ending) (hg : RangeC w2 (.pointer (some ⟨b0, 0, none⟩)) kk t e w3) => show ∃ q1 q2 q3, e = .returned (.func (.func 74) #[] #[.pointer (some ⟨q1, 0, none⟩), .pointer (some ⟨q2, 0, none⟩), .pointer (some ⟨q3, 0, none⟩)]) ∧ Since W w3 ∧ ∀ w4, Since w3 w4 → Calls Tryz.prog 48 #[.pointer (some ⟨br, 0, none⟩), .func (.func 74) #[] #[.pointer (some ⟨q1, 0, none⟩), .pointer (some ⟨q2, 0, none⟩), .pointer (some ⟨q3, 0, none⟩)], .func (.yield l) #[] #[]] w4 (GaveT W.heap.size J Jx (findL wd R cols t)) from by
    obtain ⟨q1, q2, q3, Aq, cq, rfl, e1, e2, e3, hcq, hFq, hbq⟩ := hg
    have hs3 := hs.step hbq
    refine ⟨q1, q2, q3, rfl, hs3, fun w4 hs4 => ?_⟩
    have l2 : q2 < w4.heap.size := Nat.lt_of_lt_of_le (World.block_lt_of_cell? w3 ⟨q2, 0, none⟩ e3) hs4.b.size
    have l3 : q3 < w4.heap.size := Nat.lt_of_lt_of_le (World.block_lt_of_cell? w3 ⟨q3, 0, none⟩ e2) hs4.b.size
    have hn := noted_in n (hRW.below (hs3.trans hs4).b) 74 #[.pointer (some ⟨q1, 0, none⟩), .pointer (some ⟨q2, 0, none⟩), .pointer (some ⟨q3, 0, none⟩)] (fun k => k < w4.heap.size) (fun k hk => hk) (rangeL o kk t T.io) (fun t' ht' => ?_) ?_ ?_ (range_seq w4 q1 q2 q3 b0 (hS.since (hs3.trans hs4)).bound (fun k hk => hk.2) (pw_cell_below hs4.b e1) Aq cq t (pw_cell_below hs4.b e3) l2 hcq (Kd.F_mono (Kd.F_bound (Kd.F_below hFq hs4.b)) fun k hk => hk.2) kk (pw_cell_below hs4.b e2) l3) btrange_enters l W.heap.size (hs3.trans hs4).b.size J Jx hJ hJx (by rw [hnl]; exact hR) (fun W' hb => h0 W' ((hs3.trans hs4).step hb).b)
    · rw [hnl] at hn
      exact callsIn_wide.1 hn
    · rw [range_ref kk hoL.1 hS.fit hS.up] at ht'
      exact (hT t').1 (List.mem_filter.1 ht').1
    · rw [range_ref kk hoL.1 hS.fit hS.up]
      exact (up_nodup hS.up).filter _
    · exact Nat.le_trans (rangeL_len _ _ _ _) hS.le)
  have htb : ((t.length : Int) != (wd : Int)) = false := by simp [ht]
  have hcb : ¬ cols < 0 := by omega
  have hcd : decide (cols < 0) = false := decide_eq_false hcb
  have hsh : (cols / 2 ^ wd != 0) = false := by rw [Int.ediv_eq_zero_of_lt hc0 hc1]; rfl
  have hii : (0 : Int) ≤ (i : Int) ∧ (i : Int) < (on : Int) := by omega
  have HKP := Aside0.mk (fun (w' : World) (hs : Since W w') => And.intro (pw_cell_below hs.b cBs) (And.intro (pw_cell_below hs.b cBk) (And.intro (pw_cell_below hs.b cBi) (And.intro (pw_cell_below hs.b h0c) (And.intro (pw_cell_below hs.b h1c) (And.intro (pw_cell_below hs.b h2c) (And.intro (pw_cell_below hs.b h3c) (And.intro (pw_cell_below hs.b hocell) (pw_cell_below hs.b hcell)))))))))
  clear h hRW hp hFs hFo hS hT hJ hJx hR h0 hib hb0e hoe hoL hon stW st hnl hpk hcv hkk hsv hosl ht hc0 hc1 hcb
  go_enter Tryz.func45, Tryz.ntmps45
  go_wp2_with fail
  go_quiet (first | (go_at_call 38; refine (rok_calls _ br (by assumption)).mono ?_; rintro e w' ⟨rfl, rfl⟩; first | exact ⟨rfl, 0, rfl⟩ | exact ⟨rfl, _, rfl⟩))
  go_wp2_with fail
  go_quiet (first | (go_at_call 46; refine (HP.out _ (by repeat (first | exact Since.refl _ | refine Since.drewN ?_ _ | refine Since.drew ?_))).mono ?_; rintro e w' ⟨rfl, ⟨nd, rfl⟩⟩; first | exact ⟨rfl, _, World.drewN_drewN _ _ _⟩ | exact ⟨rfl, _, Eq.trans (World.drewN_drewN _ _ _) (congrArg (World.drewN _) (Nat.add_assoc _ _ _))⟩))
  go_wp2_with fail
  go_quiet (first | (go_at_call 47; refine (HC.out _ (by repeat (first | exact Since.refl _ | refine Since.drewN ?_ _ | refine Since.drew ?_))).mono ?_; rintro e w' ⟨rfl, ⟨nd, rfl⟩⟩; first | exact ⟨rfl, _, World.drewN_drewN _ _ _⟩ | exact ⟨rfl, _, Eq.trans (World.drewN_drewN _ _ _) (congrArg (World.drewN _) (Nat.add_assoc _ _ _))⟩))
  go_wp2_with fail
  generalize hV : World.drewN (World.drewN (World.drewN W _) _) _ = V
  have hsV : Since W V := by rw [← hV]; exact (((Since.refl W).drewN _).drewN _).drewN _
  clear hV
  obtain ⟨v1, v2, v3, v4, v5, v6, v7, v8, v9⟩ := HKP.out V hsV
  have hsd : Since W V.drew := hsV.drew
  clear HP HC hcd hsh htb h0c h1c h2c h3c hocell hcell cBs cBk cBi v3 v4 v5 v6 v8
  go_region_with (first
      | (go_at_call 49; (refine (HRg.out _ hsd).mono ?_); rintro e w5 hg5; obtain ⟨q1, q2, q3, rfl, hs5, hno⟩ := HN.out _ w5 hsd e hg5; have k5 := (HKP.out w5 hs5).1; have HNO := Aside0.mk hno; clear hno hg5)
      | (go_at_call 48; (refine (HNO.out _ (Since.refl _)).mono ?_); rintro e w9 ⟨rfl, hG9⟩; have HG9 := Aside0.mk hG9; clear hG9))
  all_goals go_wp2
  all_goals refine bodyPost_ret (results_none rfl _ _ _) rfl ?_
  all_goals exact ⟨⟨_, rfl⟩, HG9.out⟩
end Go.Proofs.YtcmllllbmgcnlaaGreat.Rl
end
section
namespace Go.Proofs.YtcmllllbmgcnlaaGreat.Rl
open Go.RowKit Go.Lib Go.Shelf Go.Proofs.YtcmllllbmgcnlaaGreat.G Go.Proofs.YtcmllllbmgcnlaaGreat.Tup Go.Proofs.YtcmllllbmgcnlaaGreatW.PrintWords Go.Proofs.YtcmllllbmgcnlaaGreatW.PrintLast Go.Proofs.YtcmllllbmgcnlaaGreatW.PrintMore
open Go.Proofs.YtcmllllbmgcnlaaGreat.Ch (rwrongS pickS pickS_some)
set_option linter.unusedVariables false
set_option linter.unusedSimpArgs false
theorem sl_heap {W : World} {g : Nat} {cs : Array Value} {l : List Int} (h : W.heap[g]? = some (.cells cs 3 (0, 0))) (e : cs.toList = l.map (Value.int .i64)) (hn : l.length ≤ 1000000) : Kd.F (Kd.int .i64) W (fun k => k = g) (some ⟨g, 0, none⟩) l.length l := by
  have ho : W.ownsRow 0 3 1 (.slice (some ⟨g, 0, none⟩) l.length l.length) l.length (l.map (Value.int .i64)) :=
    ⟨by simp, .inr ⟨g, l.length, cs, rfl, Nat.zero_le _, h, Nat.le_refl _, by unfold maxLen; omega, by have := congrArg List.length e; simp at this; simp [this], by rw [e]; exact List.take_of_length_le (by simp)⟩⟩
  obtain ⟨A', c', e', hle, hF⟩ := rows_in (d := Kd.int .i64) (ok := fun _ => False) rfl ho (Els.of (by simp) fun i hi hu => by rw [List.getElem_map]; exact fun W' _ => rfl) rfl
  injection e' with e1 e2 e3
  subst e1
  exact Kd.F_mono hF fun k hk => hk.elim False.elim fun hk => by simpa [Value.ownBlock] using hk
theorem sl2_new (W : World) (a b : Int) : Sl (W.alloc (.cells #[.int .i64 a, .int .i64 b] 3)) (some ⟨W.heap.size, 0, none⟩) 2 [a, b] :=
  ⟨Kd.F_now (sl_heap (l := [a, b]) (heap_alloc_new W _) rfl (by simp)), Nat.le_refl _⟩
theorem sl1_new (W : World) (a : Int) : Sl (W.alloc (.cells #[.int .i64 a] 3)) (some ⟨W.heap.size, 0, none⟩) 1 [a] :=
  ⟨Kd.F_now (sl_heap (l := [a]) (heap_alloc_new W _) rfl (by simp)), Nat.le_refl _⟩
theorem sl2_kept {W w' : World} {S : Nat → Prop} (a b : Int) (hS : ¬ S W.heap.size) (h : KeptS S (W.alloc (.cells #[.int .i64 a, .int .i64 b] 3)) w') : Sl w' (some ⟨W.heap.size, 0, none⟩) 2 [a, b] :=
  ⟨Kd.F_now (sl_heap (l := [a, b]) ((h.same W.heap.size (by simp) hS).trans (heap_alloc_new W _)) rfl (by simp)), Nat.le_refl _⟩
theorem bits1 : nf 1 = 4607182418800017408 := by decide
theorem bits2 : nf 2 = 4611686018427387904 := by decide
theorem bits3 : nf 3 = 4613937818241073152 := by decide
theorem bits9 : nf 9 = 4621256167635550208 := by decide
theorem alive_put1 : putC 2 [] [1, 2] 4613937818241073152 4607182418800017408 = ([([1, 2], (3, 1))], true, 0) := by
  rw [← bits1, ← bits3]
  unfold putC
  rw [heightF_nf (by decide) (by decide)]
  decide
theorem alive_put2 : putC 2 [([1, 2], (3, 1))] [1, 2] 4611686018427387904 4621256167635550208 = ([([1, 2], (2, 9))], false, 0) := by
  rw [← bits2, ← bits9]
  unfold putC
  rw [heightF_nf (by decide) (by decide)]
  decide
theorem alive_served {os : List Tp} (h : OsOk 2 os) : (pickS 1 0 os).2 = true :=
  pickS_some os 0 ⟨plainO 2, List.mem_of_getElem? h.hd, by decide⟩
theorem kr_lit {W : World} {g h : Nat} {a b : Int} {n1 n2 : Int} (h1 : W.heap[g]? = some (.cells #[.int .i64 a, .int .i64 b] 3 (0, 0))) (h2 : W.heap[h]? = some (.cells #[.slice (some ⟨g, 0, none⟩) 2 2, .int .i64 n1, .int .i64 n2] 61 (0, 0))) : Kd.C KR W (some ⟨h, 0, none⟩) 1 [([a, b], (n1, n2))] := by
  have ho : W.ownsRow 0 61 3 (.slice (some ⟨h, 0, none⟩) 1 1) 1 ([(⟨some ⟨g, 0, none⟩, 2, [a, b], (n1, n2)⟩ : Elt)].flatMap Elt.enc3) :=
    ⟨rfl, .inr ⟨h, 1, _, rfl, Nat.zero_le _, h2, Nat.le_refl _, by decide, rfl, rfl⟩⟩
  have ha : (⟨some ⟨g, 0, none⟩, 2, [a, b], (n1, n2)⟩ : Elt).At W 0 := ⟨rfl, .inr ⟨g, 2, _, rfl, Nat.zero_le _, h1, Nat.le_refl _, by decide, rfl, rfl⟩⟩
  exact Kd.F_now (rows3 (base := 0) ho rfl (fun e he => by rw [List.mem_singleton] at he; subst he; exact ha)).2
structure AlvI (W : World) (br m : Nat) (bss : List Nat) (os : List Tp) (ok : Nat → Prop) (R : List Row) (w : World) : Prop where
  rel : RelAt ok w br 2 os R m bss
  b : Below W.heap.size W w
  new : W.heap.size ≤ m ∧ ∀ b ∈ bss, W.heap.size ≤ b
theorem AlvI.put {W w w' : World} {br m : Nat} {bss : List Nat} {os : List Tp} {ok : Nat → Prop} {R : List Row} {C : List Row × Bool × Int} {e : Ending} (h : AlvI W br m bss os ok R w) (hp : PutR ok w br 2 os m bss C e w') : AlvI W br m bss os (Plus ok w.heap.size) C.1 w' :=
  ⟨hp.2.1, hp.2.2.below_of h.b (fun k hk hS => hS.elim (fun e => by have := h.new.1; omega) (fun hm => by have := h.new.2 k hm; omega)), h.new⟩
theorem AlvI.below {W w w' : World} {br m : Nat} {bss : List Nat} {os : List Tp} {ok : Nat → Prop} {R : List Row} (h : AlvI W br m bss os ok R w) (hb : Below w.heap.size w w') : AlvI W br m bss os ok R w' :=
  ⟨h.rel.below hb, below_then h.b h.b.size hb, h.new⟩
theorem AlvI.fresh {W w : World} {br m : Nat} {bss : List Nat} {os : List Tp} {ok : Nat → Prop} {R : List Row} (h : AlvI W br m bss os ok R w) : ¬ (w.heap.size = m ∨ w.heap.size ∈ bss) := fun hS =>
  hS.elim (fun e => by have := h.rel.map.lt; omega) (fun hm => by have := h.rel.blt _ hm; omega)
theorem made2 {W : World} {e : Ending} {w' : World} (h : MadeR W 2 e w') : ∃ br os m bss, e = .returned (.tuple #[.pointer (some ⟨br, 0, none⟩), .int .i64 0]) ∧ ∃ ok, AlvI W br m bss os ok [] w' := by
  obtain ⟨br, wd, os, m, bss, hwd, rfl, hb, h1, h2, h3, hR⟩ := h
  obtain rfl : wd = 2 := by omega
  exact ⟨br, os, m, bss, rfl, _, hR, hb, h2, h3⟩
theorem alv_put {W w : World} {br m : Nat} {bss : List Nat} {os : List Tp} {ok : Nat → Prop} {R : List Row} (h : AlvI W br m bss os ok R w) (x y : Nat) (a b : Int) :
    Calls Tryz.prog 13 #[.pointer (some ⟨br, 0, none⟩), .complex .f64 x y, .slice (some ⟨w.heap.size, 0, none⟩) 2 2] (w.alloc (.cells #[.int .i64 a, .int .i64 b] 3)) fun e w' => e = .returned (.tuple #[.bool (putC 2 R [a, b] x y).2.1, .int .i64 (putC 2 R [a, b] x y).2.2]) ∧ ∃ ok', AlvI W br m bss os ok' (putC 2 R [a, b] x y).1 w' := by
  have h1 := h.below (below_alloc (Below.refl _ w) (.cells #[.int .i64 a, .int .i64 b] 3))
  refine Calls.mono (rput_calls h1.rel x y (some ⟨w.heap.size, 0, none⟩) 2 [a, b] (fun w' hk => sl2_kept a b h.fresh hk)) ?_
  intro e w' hp
  exact ⟨hp.1, _, h1.put hp⟩
theorem alv_note {W w : World} {br m : Nat} {bss : List Nat} {os : List Tp} {ok : Nat → Prop} {R : List Row} (h : AlvI W br m bss os ok R w) (a b : Int) :
    Calls Tryz.prog 24 #[.pointer (some ⟨br, 0, none⟩), .slice (some ⟨w.heap.size, 0, none⟩) 2 2] (w.alloc (.cells #[.int .i64 a, .int .i64 b] 3)) fun e w' => e = .returned (.tuple #[noteOf (lookF R [a, b]), .bool (lookF R [a, b]).isSome]) ∧ AlvI W br m bss os ok R w' := by
  have h1 := h.below (below_alloc (Below.refl _ w) (.cells #[.int .i64 a, .int .i64 b] 3))
  refine Calls.mono (rnote_calls h1.rel (some ⟨w.heap.size, 0, none⟩) 2 [a, b] (sl2_new w a b)) ?_
  rintro e w' ⟨rfl, hb⟩
  exact ⟨rfl, h1.below hb⟩
theorem alv_find {W w : World} {br m : Nat} {bss : List Nat} {os : List Tp} {ok : Nat → Prop} {R : List Row} (h : AlvI W br m bss os ok R w) (a b : Int) (hsv : (pickS 1 0 os).2 = true) :
    Calls Tryz.prog 22 #[.pointer (some ⟨br, 0, none⟩), .int .i64 1, .slice (some ⟨w.heap.size, 0, none⟩) 2 2] (w.alloc (.cells #[.int .i64 a, .int .i64 b] 3)) fun e w' => ∃ q1 q2 q3, e = .returned (.func (.func 45) #[] #[.pointer (some ⟨q1, 0, none⟩), .pointer (some ⟨q2, 0, none⟩), .pointer (some ⟨q3, 0, none⟩)]) ∧ AlvI W br m bss os ok R w' ∧ Seq2R Fence.wide Tryz.prog 45 #[.pointer (some ⟨q1, 0, none⟩), .pointer (some ⟨q2, 0, none⟩), .pointer (some ⟨q3, 0, none⟩)] (findL 2 R 1 [a, b]) w' := by
  have h1 := h.below (below_alloc (Below.refl _ w) (.cells #[.int .i64 a, .int .i64 b] 3))
  refine Calls.mono (rfind_calls _ (some ⟨br, 0, none⟩) 1 (some ⟨w.heap.size, 0, none⟩) 2 [a, b] (sl2_new w a b) (by simp)) ?_
  rintro e w' ⟨q1, q2, q3, Ak, ck, rfl, e1, e2, e3, hck, hF, hb⟩
  have h2 := h1.below hb
  exact ⟨q1, q2, q3, rfl, h2, rfind_served h2.rel q1 q2 q3 e1 1 e2 Ak ck [a, b] e3 ⟨Kd.F_now hF, hck⟩ rfl (by decide) (by decide) hsv⟩
theorem alv_walked (w : World) (q1 q2 q3 : Value) (h : Seq2R Fence.wide Tryz.prog 45 #[q1, q2, q3] (findL 2 [([1, 2], (2, 9))] 1 [1, 0]) w) :
    Calls Tryz.prog 28 #[.func (.func 45) #[] #[q1, q2, q3], .slice (some ⟨w.heap.size + 1, 0, none⟩) 1 1] ((w.alloc (.cells #[.int .i64 1, .int .i64 2] 3)).alloc (.cells #[.slice (some ⟨w.heap.size, 0, none⟩) 2 2, .int .i64 2, .int .i64 9] 61)) fun e w' => e = .returned (.bool true) ∧ Below w.heap.size w w' := by
  have hb : Below w.heap.size w ((w.alloc (.cells #[.int .i64 1, .int .i64 2] 3)).alloc (.cells #[.slice (some ⟨w.heap.size, 0, none⟩) 2 2, .int .i64 2, .int .i64 9] 61)) := below_alloc (below_alloc (Below.refl _ _) _) _
  have e : findL 2 [([1, 2], (2, 9))] 1 [1, 0] = [([1, 2], (2, 9))] := by decide
  rw [e] at h
  have g1 : ((w.alloc (.cells #[.int .i64 1, .int .i64 2] 3)).alloc (.cells #[.slice (some ⟨w.heap.size, 0, none⟩) 2 2, .int .i64 2, .int .i64 9] 61)).heap[w.heap.size]? = some (.cells #[.int .i64 1, .int .i64 2] 3 (0, 0)) := blk (below_alloc (Below.refl _ _) _) (heap_alloc_new w _)
  have g2 := heap_alloc_new (w.alloc (.cells #[.int .i64 1, .int .i64 2] 3)) (.cells #[.slice (some ⟨w.heap.size, 0, none⟩) 2 2, .int .i64 2, .int .i64 9] 61)
  rw [World.size_alloc] at g2
  refine Calls.mono (walked_calls _ 45 _ find_enters [([1, 2], (2, 9))] (by decide) (by decide) (by decide) (seq2R_later h hb) (some ⟨w.heap.size + 1, 0, none⟩) 1 [([1, 2], (2, 9))] (kr_lit g1 g2)) ?_
  rintro e w' ⟨rfl, hb2⟩
  exact ⟨rfl, below_then hb hb.size hb2⟩
set_option maxHeartbeats 16000000 in
set_option maxRecDepth 100000 in
theorem alive_calls (W : World) : Calls Tryz.prog 12 #[] W fun e w' => e = .returned (.bool true) ∧ Below W.heap.size W w' := by
  have b1 : Below W.heap.size W (W.alloc (.cells #[.int .i64 1] 3)) := below_alloc (Below.refl _ _) _
  have HB1 := Aside0.mk b1
  have HN := Aside0.mk (rnew_yes _ 2 _ 1 [1] (sl1_new W 1) (by decide))
  have f2 : FloatKind.f64.format.order 4611686018427387904 4611686018427387904 = some .eq := by decide
  have f9 : FloatKind.f64.format.order 4621256167635550208 4621256167635550208 = some .eq := by decide
  have E4 : Aside0 (noteOf (lookF [([1, 2], (2, 9))] [1, 2]) = .complex .f64 4611686018427387904 4621256167635550208) := ⟨by rw [← bits2, ← bits9]; rfl⟩
  clear b1
  go_enter Tryz.func12, Tryz.ntmps12
  go_wp2_with (first
    | (go_at_call 11; refine HN.out.mono ?_; clear HN; rintro e w1 hm; obtain ⟨br, os, m, bss, rfl, ok, hA⟩ := made2 hm; have HSV := Aside0.mk (alive_served hA.rel.hos); have HA1 := Aside0.mk hA; have HP1 := Aside0.mk (alv_put hA 4613937818241073152 4607182418800017408 1 2); rw [alive_put1] at HP1; clear hm hA)
    | (go_at_call 13; ((with_reducible refine HP1.out.mono ?_)); clear HP1; rintro e w2 ⟨rfl, ok2, hA⟩; have HA2 := Aside0.mk hA; have HP2 := Aside0.mk (alv_put hA 4611686018427387904 4621256167635550208 1 2); rw [alive_put2] at HP2; clear hA)
    | (go_at_call 13; ((with_reducible refine HP2.out.mono ?_)); clear HP2; rintro e w3 ⟨rfl, ok3, hA⟩; have HA3 := Aside0.mk hA; have HQ := Aside0.mk (alv_note hA 1 2); rw [E4.out] at HQ; clear hA)
    | (go_at_call 24; refine HQ.out.mono ?_; clear HQ; rintro e w4 ⟨rfl, hA⟩; have HA4 := Aside0.mk hA; have HL := Aside0.mk (rlen_calls hA.rel); have HF := Aside0.mk (alv_find hA 1 0 HSV.out); clear hA)
    | (go_at_call 15; refine HL.out.mono ?_; clear HL; rintro e w5 ⟨rfl, rfl⟩)
    | (go_at_call 22; refine HF.out.mono ?_; clear HF; rintro e w6 ⟨q1, q2, q3, rfl, hA, hsq⟩; have HA6 := Aside0.mk hA; have HW := Aside0.mk (alv_walked w6 _ _ _ hsq); clear hA hsq)
    | (go_at_call 28; refine HW.out.mono ?_; clear HW; rintro e w7 ⟨rfl, hb7⟩; have HB7 := Aside0.mk hb7; clear hb7))
  go_ret
  exact ⟨rfl, below_then HB1.out HB1.out.size (HA6.out.below HB7.out).b⟩
end Go.Proofs.YtcmllllbmgcnlaaGreat.Rl
end
section
namespace Go.Proofs.YtcmllllbmgcnlaaGreat.Rl
open Go.RowKit Go.Lib Go.Shelf Go.Proofs.YtcmllllbmgcnlaaGreat.G Go.Proofs.YtcmllllbmgcnlaaGreat.Tup Go.Proofs.YtcmllllbmgcnlaaGreatW.PrintWords Go.Proofs.YtcmllllbmgcnlaaGreatW.PrintLast Go.Proofs.YtcmllllbmgcnlaaGreatW.PrintMore
open Go.Proofs.YtcmllllbmgcnlaaGreat.Ch (rwrongS pickS pickS_some)
set_option linter.unusedVariables false
set_option linter.unusedSimpArgs false
theorem rwrong_none (n : Nat) : rwrongS (n : Int) [] = if n ≤ 8 then 0 else 1 := by
  unfold rwrongS
  by_cases h : n ≤ 8
  · rw [if_neg (by omega), if_pos h]
    unfold Go.Proofs.YtcmllllbmgcnlaaGreat.Ch.wrongS
    simp [Go.Proofs.YtcmllllbmgcnlaaGreat.Ch.Bad]
  · rw [if_pos (by omega), if_neg h]
structure MdI (W : World) (br wd m : Nat) (bss : List Nat) (os : List Tp) (ok : Nat → Prop) (R : List Row) (w : World) : Prop where
  rel : RelAt ok w br wd os R m bss
  b : Below W.heap.size W w
  new : W.heap.size ≤ m ∧ ∀ b ∈ bss, W.heap.size ≤ b
theorem MdI.put {W w w' : World} {br wd m : Nat} {bss : List Nat} {os : List Tp} {ok : Nat → Prop} {R : List Row} {C : List Row × Bool × Int} {e : Ending} (h : MdI W br wd m bss os ok R w) (hp : PutR ok w br wd os m bss C e w') : MdI W br wd m bss os (Plus ok w.heap.size) C.1 w' :=
  ⟨hp.2.1, hp.2.2.below_of h.b (fun k hk hS => hS.elim (fun e => by have := h.new.1; omega) (fun hm => by have := h.new.2 k hm; omega)), h.new⟩
theorem MdI.below {W w w' : World} {br wd m : Nat} {bss : List Nat} {os : List Tp} {ok : Nat → Prop} {R : List Row} (h : MdI W br wd m bss os ok R w) (hb : Below w.heap.size w w') : MdI W br wd m bss os ok R w' :=
  ⟨h.rel.below hb, below_then h.b h.b.size hb, h.new⟩
theorem MdI.sl {W w w' : World} {br wd m : Nat} {bss : List Nat} {os : List Tp} {ok : Nat → Prop} {R : List Row} (h : MdI W br wd m bss os ok R w) {A : Option Addr} {c : Nat} {t : Tp} (hs : Sl W A c t) (hk : KeptS (fun k => k = m ∨ k ∈ bss) w w') : Sl w' A c t :=
  hs.below (hk.below_of h.b (fun k hk hS => hS.elim (fun e => by have := h.new.1; omega) (fun hm => by have := h.new.2 k hm; omega)))
theorem made_i {W : World} {n : Nat} {e : Ending} {w' : World} (h : MadeR W n e w') : ∃ br os m bss, e = .returned (.tuple #[.pointer (some ⟨br, 0, none⟩), .int .i64 0]) ∧ ∃ ok, MdI W br n m bss os ok [] w' := by
  obtain ⟨br, wd, os, m, bss, hwd, rfl, hb, h1, h2, h3, hR⟩ := h
  obtain rfl : wd = n := by omega
  exact ⟨br, os, m, bss, rfl, _, hR, hb, h2, h3⟩
theorem MdI.put_calls {W w : World} {br wd m : Nat} {bss : List Nat} {os : List Tp} {ok : Nat → Prop} {R : List Row} (h : MdI W br wd m bss os ok R w) (x y : Nat) {A : Option Addr} {c : Nat} {t : Tp} (hs : Sl W A c t) :
    Calls Tryz.prog 13 #[.pointer (some ⟨br, 0, none⟩), .complex .f64 x y, .slice A t.length c] w fun e w' => e = .returned (.tuple #[.bool (putC wd R t x y).2.1, .int .i64 (putC wd R t x y).2.2]) ∧ ∃ ok', MdI W br wd m bss os ok' (putC wd R t x y).1 w' :=
  (rput_calls h.rel x y A c t (fun w' hk => h.sl hs hk)).mono fun e w' hp => ⟨hp.1, _, h.put hp⟩
theorem MdI.has_calls {W w : World} {br wd m : Nat} {bss : List Nat} {os : List Tp} {ok : Nat → Prop} {R : List Row} (h : MdI W br wd m bss os ok R w) {A : Option Addr} {c : Nat} {t : Tp} (hs : Sl W A c t) :
    Calls Tryz.prog 16 #[.pointer (some ⟨br, 0, none⟩), .slice A t.length c] w fun e w' => e = .returned (.bool (lookF R t).isSome) ∧ MdI W br wd m bss os ok R w' :=
  (rhas_calls h.rel A c t (hs.below h.b)).mono fun e w' hp => ⟨hp.1, h.below hp.2⟩
theorem MdI.note_calls {W w : World} {br wd m : Nat} {bss : List Nat} {os : List Tp} {ok : Nat → Prop} {R : List Row} (h : MdI W br wd m bss os ok R w) {A : Option Addr} {c : Nat} {t : Tp} (hs : Sl W A c t) :
    Calls Tryz.prog 24 #[.pointer (some ⟨br, 0, none⟩), .slice A t.length c] w fun e w' => e = .returned (.tuple #[noteOf (lookF R t), .bool (lookF R t).isSome]) ∧ MdI W br wd m bss os ok R w' :=
  (rnote_calls h.rel A c t (hs.below h.b)).mono fun e w' hp => ⟨hp.1, h.below hp.2⟩
set_option maxHeartbeats 8000000 in
set_option maxRecDepth 100000 in
theorem relRefuses_calls {W : World} (x y : Nat) (A : Option Addr) (c : Nat) (t : List Int) (h : Sl W A c t) (W' : World) (e : W' = W) :
    Calls Tryz.prog 3 #[.float .f64 x, .float .f64 y, .slice A t.length c] W' fun e w' => e = .returned (.bool true) ∧ Below W.heap.size W w' := by
  subst e
  have sn : Sl W' none 0 [] := ⟨Kd.C_nil _ _, Nat.le_refl _⟩
  by_cases h8 : t.length ≤ 8
  · have hw : rwrongS (t.length : Int) [] = 0 := by rw [rwrong_none, if_pos h8]
    have HN := Aside0.mk (rnew_yes W' t.length none 0 [] sn hw)
    have HS := Aside0.mk h
    obtain ⟨F, hF⟩ : ∃ F, F = heightF x y := ⟨_, rfl⟩
    have HH := Aside0.mk (fun w => rheight_calls w x y)
    have HC := Aside0.mk (show putC t.length [] t x y = if F.2.2 = true then ([(t, (F.1, F.2.1))], true, 0) else ([], false, 1) from by rw [hF]; unfold putC; rw [if_neg (fun h => h rfl)]; simp [putTo, putAns, insRow, lookF, keys])
    rw [← hF] at HH
    clear hw hF h sn
    obtain ⟨f1, f2, f3⟩ := F
    cases f3
    · simp only [Bool.false_eq_true, if_false] at HC
      go_enter Tryz.func3, Tryz.ntmps3
      go_wp2_with (first
        | (go_at_call 11; refine HN.out.mono ?_; clear HN; rintro e w1 hm; obtain ⟨br, os, m, bss, rfl, ok, hA⟩ := made_i hm; have HP1 := Aside0.mk (hA.put_calls x y HS.out); rw [HC.out] at HP1; clear hm hA)
        | (go_at_call 13; go_loud (refine HP1.out.mono ?_); clear HP1; rintro e w2 ⟨rfl, ok2, hA⟩; have HA2 := Aside0.mk hA; have HL := Aside0.mk (rlen_calls hA.rel); clear hA)
        | (go_at_call 14; (refine (HH.out _).mono ?_); rintro e w3 ⟨rfl, rfl⟩)
        | (go_at_call 15; refine HL.out.mono ?_; clear HL; rintro e w4 ⟨rfl, rfl⟩)
        | (go_at_call 12; refine (alive_calls _).mono ?_; rintro e w5 ⟨rfl, hb5⟩; have HB5 := Aside0.mk hb5; clear hb5))
      go_ret
      exact ⟨rfl, (HA2.out.below HB5.out).b⟩
    · simp only [if_true] at HC
      go_enter Tryz.func3, Tryz.ntmps3
      have HLk := Aside0.mk (show (lookF [(t, (f1, f2))] t).isSome = true from by simp [lookF])
      go_wp2_with (first
        | (go_at_call 11; refine HN.out.mono ?_; clear HN; rintro e w1 hm; obtain ⟨br, os, m, bss, rfl, ok, hA⟩ := made_i hm; have HP1 := Aside0.mk (hA.put_calls x y HS.out); rw [HC.out] at HP1; clear hm hA)
        | (go_at_call 13; go_loud (refine HP1.out.mono ?_); clear HP1; rintro e w2 ⟨rfl, ok2, hA⟩; have HQ := Aside0.mk (hA.has_calls HS.out); rw [HLk.out] at HQ; clear hA)
        | (go_at_call 14; (refine (HH.out _).mono ?_); rintro e w3 ⟨rfl, rfl⟩)
        | (go_at_call 16; refine HQ.out.mono ?_; clear HQ; rintro e w4 ⟨rfl, hA⟩; have HA2 := Aside0.mk hA; clear hA)
        | (go_at_call 12; refine (alive_calls _).mono ?_; rintro e w5 ⟨rfl, hb5⟩; have HB5 := Aside0.mk hb5; clear hb5))
      go_ret
      exact ⟨rfl, (HA2.out.below HB5.out).b⟩
  · have hw : rwrongS (t.length : Int) [] = 1 := by rw [rwrong_none, if_neg h8]
    have HN := Aside0.mk (rnew_no W' t.length none 0 [] sn (by rw [hw]; decide))
    rw [hw] at HN
    have hg : decide ((t.length : Int) > 8) = true := decide_eq_true (by omega)
    clear hw h sn
    go_enter Tryz.func3, Tryz.ntmps3
    go_wp2_with (first
      | (go_at_call 11; refine HN.out.mono ?_; clear HN; rintro e w1 ⟨rfl, hb⟩; have HB1 := Aside0.mk hb; clear hb)
      | (go_at_call 12; refine (alive_calls _).mono ?_; rintro e w5 ⟨rfl, hb5⟩; have HB5 := Aside0.mk hb5; clear hb5))
    go_ret
    exact ⟨rfl, below_then HB1.out HB1.out.size HB5.out⟩
end Go.Proofs.YtcmllllbmgcnlaaGreat.Rl
end
section
namespace Go.Proofs.YtcmllllbmgcnlaaGreat.Rl
open Go.RowKit Go.Lib Go.Shelf Go.Proofs.YtcmllllbmgcnlaaGreat.G Go.Proofs.YtcmllllbmgcnlaaGreat.Tup Go.Proofs.YtcmllllbmgcnlaaGreatW.PrintWords Go.Proofs.YtcmllllbmgcnlaaGreatW.PrintLast Go.Proofs.YtcmllllbmgcnlaaGreatW.PrintMore
open Go.Proofs.YtcmllllbmgcnlaaGreat.Ch (rwrongS pickS pickS_some)
set_option linter.unusedVariables false
set_option linter.unusedSimpArgs false
def Prs (W : World) (A : Option Addr) (ns : List (Int × Int)) : Prop := ∀ i (hi : i < ns.length), ∃ ad, A = some ad ∧ W.cell? (ad.add (i * 2)) = some (.int .i64 ns[i].1) ∧ W.cell? ⟨(ad.add (i * 2)).block, (ad.add (i * 2)).off + 1, none⟩ = some (.int .i64 ns[i].2)
def BestAt (t : Tp) (R : List Row) (h k : Int) : Prop := (R = [] ∧ h = 1125899906842624 ∧ k = 1125899906842624) ∨ R = [(t, (h, k))]
theorem best_put {t : Tp} {R : List Row} {h k n0 n1 : Int} (hb : BestAt t R h k) (v0 : rightB n0 = true) (v1 : rightB n1 = true) : ∃ b, putC t.length R t (nf n0) (nf n1) = ([(t, if betterB n0 n1 h k = true then (n0, n1) else (h, k))], b, 0) := by
  unfold putC
  rw [if_neg (fun h => h rfl), heightF_nf v0 v1]
  rcases hb with ⟨rfl, rfl, rfl⟩ | rfl
  · refine ⟨true, ?_⟩
    have e : (if betterB n0 n1 1125899906842624 1125899906842624 = true then (n0, n1) else (1125899906842624, 1125899906842624)) = (n0, n1) := by
      by_cases hb : betterB n0 n1 1125899906842624 1125899906842624 = true
      · rw [if_pos hb]
      · rw [if_neg hb]
        have := rightB_iff v0
        have := rightB_iff v1
        unfold betterB at hb
        simp at hb
        have h0 : n0 = 1125899906842624 := by omega
        have h1 : n1 = 1125899906842624 := by have := hb.2 h0; omega
        rw [h0, h1]
    rw [e]
    simp [putTo, putAns, insRow, lookF, keys]
  · refine ⟨false, ?_⟩
    simp [putTo, putAns, lookF, keys, updF]
    split <;> rfl
theorem cells2 {w w' : World} {T : TypeId} {S : Nat → Prop} (a b : Int) (hk : KeptS S (w.alloc (.cells #[.int .i64 a, .int .i64 b] T)) w') (hS : ¬ S w.heap.size) : w'.cell? ⟨w.heap.size, 0, none⟩ = some (.int .i64 a) ∧ w'.cell? ⟨w.heap.size, 1, none⟩ = some (.int .i64 b) := by
  have hp := (hk.same w.heap.size (by simp) hS).trans (heap_alloc_new w _)
  exact ⟨(Tup.cell_of_heap hp 0).trans rfl, (Tup.cell_of_heap hp 1).trans rfl⟩
theorem MdI.put2 {W w : World} {br wd m : Nat} {bss : List Nat} {os : List Tp} {ok : Nat → Prop} {R : List Row} (h : MdI W br wd m bss os ok R w) (x y : Nat) {A : Option Addr} {c : Nat} {t : Tp} (hs : Sl W A c t) (a b : Int) (T : TypeId) :
    Calls Tryz.prog 13 #[.pointer (some ⟨br, 0, none⟩), .complex .f64 x y, .slice A t.length c] (w.alloc (.cells #[.int .i64 a, .int .i64 b] T)) fun e w' => e = .returned (.tuple #[.bool (putC wd R t x y).2.1, .int .i64 (putC wd R t x y).2.2]) ∧ (∃ ok', MdI W br wd m bss os ok' (putC wd R t x y).1 w') ∧ w'.cell? ⟨w.heap.size, 0, none⟩ = some (.int .i64 a) ∧ w'.cell? ⟨w.heap.size, 1, none⟩ = some (.int .i64 b) := by
  have h1 := h.below (below_alloc (Below.refl _ w) (.cells #[.int .i64 a, .int .i64 b] T))
  refine (rput_calls h1.rel x y A c t (fun w' hk => h1.sl hs hk)).mono fun e w' hp => ⟨hp.1, ⟨_, h1.put hp⟩, cells2 a b hp.2.2 fun hS => ?_⟩
  exact hS.elim (fun e => by have := h.rel.map.lt; omega) (fun hm => by have := h.rel.blt _ hm; omega)
set_option maxHeartbeats 8000000 in
set_option maxRecDepth 100000 in
theorem best_walk (W : World) (A : Option Addr) (c : Nat) (t : List Int) (h : Sl W A c t) (A2 : Option Addr) (c2 : Nat) (ns : List (Int × Int)) (hp : Prs W A2 ns) (hn : ns.length ≤ 140737488355328) :
    Calls Tryz.prog 6 #[.slice A t.length c, .slice A2 ns.length c2] W fun e w' => e = .returned (.bool true) ∧ Below W.heap.size W w' := by
  have sn : Sl W none 0 [] := ⟨Kd.C_nil _ _, Nat.le_refl _⟩
  by_cases h8 : t.length ≤ 8
  · have hw : rwrongS (t.length : Int) [] = 0 := by rw [rwrong_none, if_pos h8]
    have HN := Aside0.mk (rnew_yes W t.length none 0 [] sn hw)
    have HS := Aside0.mk h
    have HP := Aside0.mk hp
    clear hw h sn hp
    by_cases h0 : ns.length = 0
    · have hz : ((ns.length : Int) == 0) = true := by simp [h0]
      clear h0 hn
      go_enter Tryz.func6, Tryz.ntmps6
      go_wp2_with (first
        | (go_at_call 11; refine HN.out.mono ?_; clear HN; rintro e w1 hm; obtain ⟨br, os, m, bss, rfl, ok, hA⟩ := made_i hm; have HA1 := Aside0.mk hA; clear hm hA)
        | (go_at_call 12; refine (alive_calls _).mono ?_; rintro e w5 ⟨rfl, hb5⟩; have HB5 := Aside0.mk hb5; clear hb5))
      go_ret
      exact ⟨rfl, (HA1.out.below HB5.out).b⟩
    · have hz : ((ns.length : Int) == 0) = false := beq_false_of_ne (by omega)
      obtain ⟨n, hne⟩ : ∃ n, n = ns.length := ⟨_, rfl⟩
      have HNE := Aside0.mk hne
      rw [← hne] at hz h0 hn ⊢
      clear hne
      go_enter Tryz.func6, Tryz.ntmps6
      go_wp2_with (first
        | (go_at_call 11; refine HN.out.mono ?_; clear HN; rintro e w1 hm; obtain ⟨br, os, m, bss, rfl, ok, hA⟩ := made_i hm; have HA1 := Aside0.mk hA; clear hm hA)
        | (go_at_call 12; refine (alive_calls _).mono ?_; rintro e w5 ⟨rfl, hb5⟩; have HB5 := Aside0.mk hb5; clear hb5))
      go_loopg [7, 8, 38] n (fun gk v7 v8 v38 wr => ∃ (i : Nat) (bh bk : Int), v7 = .int .i64 bh ∧ v8 = .int .i64 bk ∧ v38 = .int .i64 (i : Int) ∧ Aside0 (i + gk = n) ∧ Aside0 (rightB bh = true ∧ rightB bk = true) ∧ Aside0 (∃ ok R, MdI W br t.length m bss os ok R wr ∧ BestAt t R bh bk ∧ (0 < i → R = [(t, (bh, bk))])))
      case atStart => exact ⟨0, _, _, rfl, rfl, rfl, ⟨by omega⟩, ⟨by decide⟩, ⟨_, [], HA1.out.below HB5.out, .inl ⟨rfl, rfl, rfl⟩, fun h => absurd h (by omega)⟩⟩
      case round =>
        obtain ⟨i, bh, bk, rfl, rfl, rfl, HI, HV, HD⟩ := hrel
        by_cases hi : i < n
        · have hii : (i : Int) < (n : Int) := by omega
          have hid : decide (i < n) = true := decide_eq_true hi
          obtain ⟨ad, rfl, cc0, cc1⟩ := HP.out i (by rw [← HNE.out]; exact hi)
          obtain ⟨⟨n0, n1⟩, hnn⟩ : ∃ x, x = ns[i]'(by rw [← HNE.out]; exact hi) := ⟨_, rfl⟩
          rw [← hnn] at cc0 cc1
          obtain ⟨ok, R, hM, hB, hB2⟩ := HD.out
          have c0' := pw_cell_below hM.b cc0
          have c1' := pw_cell_below hM.b cc1
          have HB := Aside0.mk hB
          have HM := Aside0.mk hM
          clear cc0 cc1 hnn hM hB hB2 HD
          have HNt := Aside0.mk (fun w => note_calls w n0 n1)
          have HLn := Aside0.mk (fun w => lnote_calls w n0 n1)
          have hN : noteF n0 n1 = if rightB n0 && rightB n1 then ((nf n0, nf n1), 0) else ((0, 0), 1) := rfl
          cases hv : rightB n0 && rightB n1
          · rw [hv] at hN
            rw [hN] at HNt
            clear hN hv
            have HB1 := Aside0.mk (HM.out.below (below_alloc (Below.refl _ wr) (.cells #[.int .i64 n0, .int .i64 n1] 55))).b
            go_wp2_with (first
              | (go_at_call 18; refine (HNt.out _).mono ?_; rintro e w1 ⟨rfl, hw1⟩; subst hw1))
            go_ret
            exact ⟨rfl, HB1.out⟩
          · rw [hv] at hN
            rw [hN] at HNt HLn
            obtain ⟨v0, v1⟩ := Bool.and_eq_true_iff.1 hv
            obtain ⟨bb, hpc⟩ := best_put HB.out v0 v1
            have HPt := Aside0.mk (HM.out.put2 (nf n0) (nf n1) HS.out n0 n1 55)
            rw [hpc] at HPt
            have HVN := Aside0.mk (And.intro v0 v1)
            clear hN hv v0 v1 hpc
            by_cases x1 : n0 < bh
            · have y1 : decide (n0 < bh) = true := decide_eq_true x1
              rw [if_pos (show betterB n0 n1 bh bk = true from by unfold betterB; rw [y1]; rfl)] at HPt
              go_wp2_with (first
                | (go_at_call 18; refine (HNt.out _).mono ?_; rintro e w1 ⟨rfl, hw1⟩; subst hw1)
                | (go_at_call 20; refine (HLn.out _).mono ?_; rintro e w1 ⟨rfl, hw1⟩; subst hw1)
                | (go_at_call 13; refine HPt.out.mono ?_; rintro e w6 ⟨rfl, hd6, k0, k1⟩; have HD6 := Aside0.mk hd6; clear hd6))
              go_region
              go_wp2_with fail
              obtain ⟨k2, hk2⟩ : ∃ k2, k2 = gk - 1 := ⟨_, rfl⟩
              go_roundg k2
              case measure => have := HI.out; omega
              case rel => exact ⟨i + 1, n0, n1, rfl, rfl, by go_num, ⟨by have := HI.out; omega⟩, ⟨HVN.out⟩, ⟨by obtain ⟨ok', hM'⟩ := HD6.out; exact ⟨ok', _, hM'.below ((Since.refl _).drew).b, .inr rfl, fun _ => rfl⟩⟩⟩
            · have y1 : decide (n0 < bh) = false := decide_eq_false x1
              by_cases x2 : n0 = bh
              · subst x2
                have y2 : (n0 == n0) = true := by simp
                by_cases x3 : n1 < bk
                · have y3 : decide (n1 < bk) = true := decide_eq_true x3
                  rw [if_pos (show betterB n0 n1 n0 bk = true from by unfold betterB; rw [y1, y3]; simp)] at HPt
                  go_wp2_with (first
                    | (go_at_call 18; refine (HNt.out _).mono ?_; rintro e w1 ⟨rfl, hw1⟩; subst hw1)
                    | (go_at_call 20; refine (HLn.out _).mono ?_; rintro e w1 ⟨rfl, hw1⟩; subst hw1)
                    | (go_at_call 13; refine HPt.out.mono ?_; rintro e w6 ⟨rfl, hd6, k0, k1⟩; have HD6 := Aside0.mk hd6; clear hd6))
                  go_region
                  go_wp2_with fail
                  obtain ⟨k2, hk2⟩ : ∃ k2, k2 = gk - 1 := ⟨_, rfl⟩
                  go_roundg k2
                  case measure => have := HI.out; omega
                  case rel => exact ⟨i + 1, n0, n1, rfl, rfl, by go_num, ⟨by have := HI.out; omega⟩, ⟨HVN.out⟩, ⟨by obtain ⟨ok', hM'⟩ := HD6.out; exact ⟨ok', _, hM'.below ((Since.refl _).drew).b, .inr rfl, fun _ => rfl⟩⟩⟩
                · have y3 : decide (n1 < bk) = false := decide_eq_false x3
                  rw [if_neg (show ¬ betterB n0 n1 n0 bk = true from by unfold betterB; rw [y1, y3]; simp)] at HPt
                  go_wp2_with (first
                    | (go_at_call 18; refine (HNt.out _).mono ?_; rintro e w1 ⟨rfl, hw1⟩; subst hw1)
                    | (go_at_call 20; refine (HLn.out _).mono ?_; rintro e w1 ⟨rfl, hw1⟩; subst hw1)
                    | (go_at_call 13; refine HPt.out.mono ?_; rintro e w6 ⟨rfl, hd6, k0, k1⟩; have HD6 := Aside0.mk hd6; clear hd6))
                  obtain ⟨k2, hk2⟩ : ∃ k2, k2 = gk - 1 := ⟨_, rfl⟩
                  go_roundg k2
                  case measure => have := HI.out; omega
                  case rel => exact ⟨i + 1, n0, bk, rfl, rfl, by go_num, ⟨by have := HI.out; omega⟩, HV, ⟨by obtain ⟨ok', hM'⟩ := HD6.out; exact ⟨ok', _, hM', .inr rfl, fun _ => rfl⟩⟩⟩
              · have y2 : (n0 == bh) = false := by simpa using x2
                have y4 : decide (n0 = bh) = false := decide_eq_false x2
                rw [if_neg (show ¬ betterB n0 n1 bh bk = true from by unfold betterB; rw [y1, y4]; simp)] at HPt
                go_wp2_with (first
                  | (go_at_call 18; refine (HNt.out _).mono ?_; rintro e w1 ⟨rfl, hw1⟩; subst hw1)
                  | (go_at_call 20; refine (HLn.out _).mono ?_; rintro e w1 ⟨rfl, hw1⟩; subst hw1)
                  | (go_at_call 13; refine HPt.out.mono ?_; rintro e w6 ⟨rfl, hd6, k0, k1⟩; have HD6 := Aside0.mk hd6; clear hd6))
                obtain ⟨k2, hk2⟩ : ∃ k2, k2 = gk - 1 := ⟨_, rfl⟩
                go_roundg k2
                case measure => have := HI.out; omega
                case rel => exact ⟨i + 1, bh, bk, rfl, rfl, by go_num, ⟨by have := HI.out; omega⟩, HV, ⟨by obtain ⟨ok', hM'⟩ := HD6.out; exact ⟨ok', _, hM', .inr rfl, fun _ => rfl⟩⟩⟩
        · have hii : ¬ (i : Int) < (n : Int) := by omega
          have hid : decide (i < n) = false := decide_eq_false hi
          obtain ⟨ok, R, hM, hB, hB2⟩ := HD.out
          obtain rfl := hB2 (by have := HI.out; omega)
          have HNo := Aside0.mk (hM.note_calls HS.out)
          have HLk := show lookF [(t, (bh, bk))] t = some (bh, bk) from by simp [lookF]
          rw [HLk] at HNo
          have HNo' : Aside0 (Calls Tryz.prog 24 #[.pointer (some ⟨br, 0, none⟩), .slice A t.length c] wr fun e w' => e = .returned (.tuple #[.complex .f64 (nf bh) (nf bk), .bool true]) ∧ MdI W br t.length m bss os ok [(t, (bh, bk))] w') := HNo
          have HG := Aside0.mk (fun w => height_calls w (nf bh) (nf bk))
          rw [heightF_nf HV.out.1 HV.out.2] at HG
          have e1 : (bh == bh) = true := by simp
          have e2 : (bk == bk) = true := by simp
          clear HNo HLk hM hB hB2 HD
          go_wp2_with (first
            | (go_at_call 24; refine HNo'.out.mono ?_; rintro e w6 ⟨rfl, hA⟩; have HA6 := Aside0.mk hA; have HL := Aside0.mk (rlen_calls hA.rel); clear hA)
            | (go_at_call 17; refine (HG.out _).mono ?_; rintro e w7 ⟨rfl, hw7⟩; subst hw7)
            | (go_at_call 15; refine HL.out.mono ?_; clear HL; rintro e w4 ⟨rfl, rfl⟩))
          go_ret
          exact ⟨rfl, HA6.out.b⟩
  · have hw : rwrongS (t.length : Int) [] = 1 := by rw [rwrong_none, if_neg h8]
    have HN := Aside0.mk (rnew_no W t.length none 0 [] sn (by rw [hw]; decide))
    rw [hw] at HN
    clear hw h sn hp
    go_enter Tryz.func6, Tryz.ntmps6
    go_wp2_with (first
      | (go_at_call 11; refine HN.out.mono ?_; clear HN; rintro e w1 ⟨rfl, hb⟩; have HB1 := Aside0.mk hb; clear hb)
      | (go_at_call 12; refine (alive_calls _).mono ?_; rintro e w5 ⟨rfl, hb5⟩; have HB5 := Aside0.mk hb5; clear hb5))
    go_ret
    exact ⟨rfl, below_then HB1.out HB1.out.size HB5.out⟩
end Go.Proofs.YtcmllllbmgcnlaaGreat.Rl
end
