/- Own texts, joined and cut to what the claim stands on: BtInsert. -/
import Derived.Test.YtcmllllbmgcnlaaGreatQ16
section
namespace Go.Proofs.YtcmllllbmgcnlaaGreat.Tup
open Go.RowKit Go.Lib Go.Proofs.YtcmllllbmgcnlaaGreat.G Go.Proofs.YtcmllllbmgcnlaaGreatW.PrintWords Go.Proofs.YtcmllllbmgcnlaaGreatW.PrintLast Go.Proofs.YtcmllllbmgcnlaaGreatW.PrintMore
set_option linter.unusedVariables false
set_option linter.unusedSimpArgs false
structure Kept1 (bs : Nat) (W w' : World) : Prop where
  g : W.grownBy w' (some bs)
theorem Kept1.below {bs : Nat} {W w' : World} (h : Below W.heap.size W w') : Kept1 bs W w' := ⟨h.os, h.tape, h.output, h.size, fun k hk _ => h.block k hk⟩
theorem Kept1.trans {bs : Nat} {W w1 w2 : World} (h : Kept1 bs W w1) (k : Kept1 bs w1 w2) : Kept1 bs W w2 :=
  ⟨k.g.os.trans h.g.os, k.g.tape.trans h.g.tape, k.g.output.trans h.g.output, Nat.le_trans h.g.size k.g.size, fun j hj hn => (k.g.block j (Nat.lt_of_lt_of_le hj h.g.size) hn).trans (h.g.block j hj hn)⟩
theorem Kept1.set (bs : Nat) (w : World) (j : Nat) (v : Value) : Kept1 bs w (w.setCell ⟨bs, j, none⟩ v) :=
  ⟨rfl, rfl, rfl, by simp, fun k _ hk => Below.heap_setCell _ _ _ _ (fun e => hk (by rw [e]))⟩
theorem Kept1.heap {bs : Nat} {W w' : World} (h : Kept1 bs W w') {k : Nat} (hk : k < W.heap.size) (hn : k ≠ bs) : w'.heap[k]? = W.heap[k]? := h.g.block k hk (fun e => hn (Option.some.inj e))
theorem SetAt.mono {ok ok' : Nat → Prop} {W : World} {bs : Nat} {A : Option Addr} {c : Nat} {o : Tp} {rt : Nat} {T : BT} (h : SetAt ok W bs A c o rt T) (hm : ∀ k, ok k → ok' k) (hn : ¬ ok' bs) : SetAt ok' W bs A c o rt T :=
  ⟨h.hp, h.so, Kd.F_mono h.F hm, h.nd.mono hm, h.wf, h.rto, h.fit, h.up, h.le, hn⟩
theorem SetAt.bound {ok : Nat → Prop} {W : World} {bs : Nat} {A : Option Addr} {c : Nat} {o : Tp} {rt : Nat} {T : BT} (h : SetAt ok W bs A c o rt T) : SetAt (fun k => ok k ∧ k < W.heap.size) W bs A c o rt T :=
  ⟨h.hp, h.so, Kd.F_bound h.F, h.nd.bound, h.wf, h.rto, h.fit, h.up, h.le, fun hk => h.nok hk.1⟩
def insAns (o : Tp) (L : List Tp) (t : Tp) : Bool × Nat := if t.length ≠ o.length then (false, 14) else if t ∈ L then (false, 0) else if 1024 ≤ L.length then (false, 18) else (true, 0)
def insTo (o : Tp) (L : List Tp) (t : Tp) : List Tp := if (insAns o L t).1 then insO o t L else L
def InsR (ok : Nat → Prop) (W : World) (bs : Nat) (A : Option Addr) (c : Nat) (o : Tp) (T : BT) (t : Tp) (e : Ending) (w' : World) : Prop :=
  ∃ rt' T', e = .returned (.tuple #[.bool (insAns o T.io t).1, .int .i64 ((insAns o T.io t).2 : Int)]) ∧ SetAt (Plus ok W.heap.size) w' bs A c o rt' T' ∧ T'.io = insTo o T.io t ∧ Kept1 bs W w'
theorem plus_not {ok : Nat → Prop} {bs n : Nat} (h : ¬ ok bs) (hb : bs < n) : ¬ Plus ok n bs := fun hk => hk.elim h (by omega)
set_option maxHeartbeats 2000000 in
set_option maxRecDepth 100000 in
theorem insert_width {ok : Nat → Prop} (W : World) (bs : Nat) {A : Option Addr} {c : Nat} {o : Tp} {rt : Nat} {T : BT} (h : SetAt ok W bs A c o rt T) (At : Option Addr) (ct : Nat) (t : Tp) (hl : t.length ≠ o.length) :
    Calls Tryz.prog 41 #[.pointer (some ⟨bs, 0, none⟩), .slice At t.length ct] W (InsR ok W bs A c o T t) := by
  have h0 := h.c0
  have h1 := h.c1
  have HA := Aside0.mk h
  have ha : Aside0 (insAns o T.io t = (false, 14)) := ⟨by simp [insAns, hl]⟩
  have hd := decide_eq_false hl
  clear h hl
  go_enter Tryz.func41, Tryz.ntmps41
  go_wp2_with (first
    | (go_at_call 64; refine (ok_calls _ bs h0).mono ?_; rintro e w' ⟨rfl, rfl⟩)
    | (go_at_call 65; refine (fits_calls _ bs A c o h0 h1 At ct t).mono ?_; rw [hd]; rintro e w' ⟨rfl, rfl⟩))
  go_ret2
  refine ⟨rt, T, by rw [ha.out]; rfl, HA.out.mono (fun k hk => .inl hk) (plus_not HA.out.nok HA.out.lt), by unfold insTo; rw [ha.out]; rfl, .below (Below.refl _ _)⟩
set_option maxHeartbeats 2000000 in
set_option maxRecDepth 100000 in
theorem insert_not {ok : Nat → Prop} (W : World) (bs : Nat) {A : Option Addr} {c : Nat} {o : Tp} {rt : Nat} {T : BT} (h : SetAt ok W bs A c o rt T) (At : Option Addr) (ct : Nat) (t : Tp) (st : Sl W At ct t) (hl : t.length = o.length) (hn : t ∈ T.io ∨ 1024 ≤ T.io.length) :
    Calls Tryz.prog 41 #[.pointer (some ⟨bs, 0, none⟩), .slice At t.length ct] W (InsR ok W bs A c o T t) := by
  have h0 := h.c0
  have h1 := h.c1
  have h3 := h.c3
  have HC := Aside0.mk (has_calls W bs h At ct t st)
  have HA := Aside0.mk h
  have hd := decide_eq_true hl
  by_cases hm : t ∈ T.io
  · have ha : Aside0 (insAns o T.io t = (false, 0)) := ⟨by simp [insAns, hl, hm]⟩
    have hd2 := decide_eq_true hm
    rw [hd2] at HC
    clear h hl hm hd2 hn
    go_enter Tryz.func41, Tryz.ntmps41
    go_wp2_with (first
      | (go_at_call 64; refine (ok_calls _ bs h0).mono ?_; rintro e w' ⟨rfl, rfl⟩)
      | (go_at_call 65; refine (fits_calls _ bs A c o h0 h1 At ct t).mono ?_; rw [hd]; rintro e w' ⟨rfl, rfl⟩)
      | (go_at_call 66; refine HC.out.mono ?_; rintro e w' ⟨rfl, hb⟩))
    go_ret2
    refine ⟨rt, T, by rw [ha.out]; rfl, (HA.out.since ⟨hb⟩).mono (fun k hk => .inl hk) (plus_not HA.out.nok HA.out.lt), by unfold insTo; rw [ha.out]; rfl, .below hb⟩
  · have hn2 : 1024 ≤ T.io.length := hn.resolve_left hm
    have ha : Aside0 (insAns o T.io t = (false, 18)) := ⟨by simp [insAns, hl, hm, hn2]⟩
    have hd2 := decide_eq_false hm
    rw [hd2] at HC
    obtain ⟨n, hnn⟩ : ∃ n, n = T.io.length := ⟨_, rfl⟩
    rw [← hnn] at h3 hn2
    have hn3 : (n : Int) ≥ 1024 := by omega
    clear h hl hm hd2 hn hnn
    go_enter Tryz.func41, Tryz.ntmps41
    go_wp2_with (first
      | (go_at_call 64; refine (ok_calls _ bs h0).mono ?_; rintro e w' ⟨rfl, rfl⟩)
      | (go_at_call 65; refine (fits_calls _ bs A c o h0 h1 At ct t).mono ?_; rw [hd]; rintro e w' ⟨rfl, rfl⟩)
      | (go_at_call 66; refine HC.out.mono ?_; rintro e w' ⟨rfl, hb⟩; have h3w := pw_cell_below hb h3))
    go_ret2
    refine ⟨rt, T, by rw [ha.out]; rfl, (HA.out.since ⟨hb⟩).mono (fun k hk => .inl hk) (plus_not HA.out.nok HA.out.lt), by unfold insTo; rw [ha.out]; rfl, .below hb⟩
theorem plus_l (ok : Nat → Prop) (n : Nat) : ∀ k, ok k → Plus ok n k := fun k hk => .inl hk
theorem plus_r (ok : Nat → Prop) (n : Nat) : ∀ k, n ≤ k → Plus ok n k := fun k hk => .inr hk
theorem set_new {ok : Nat → Prop} {W w' : World} {bs : Nat} {A : Option Addr} {c : Nat} {o : Tp} {rt rt' : Nat} {T T' : BT} {t : Tp} (h : SetAt ok W bs A c o rt T) (hk : Kept1 bs W w') (hp : w'.heap[bs]? = some (.cells #[.bool true, .slice A o.length c, .pointer (some ⟨rt', 0, none⟩), .int .i64 (T'.io.length : Int)] 128 (0, 0)))
    (hN : NodeF (Plus ok W.heap.size) w' rt' T') (hOk : T'.Ok) (hio : T'.io = insO o t T.io) (hft : Fit o t) (hm : t ∉ T.io) (hn : T.io.length < 1024) : SetAt (Plus ok W.heap.size) w' bs A c o rt' T' :=
  ⟨hp, h.so, Kd.F_mono (Kd.F_step h.F fun k hk' hlt => hk.heap hlt (fun e => h.nok (e ▸ hk'))) (plus_l ok _), hN, hOk, h.rto, fun a ha => by
    rw [hio, insO_mem] at ha
    rcases ha with rfl | ha
    · exact hft
    · exact h.fit a ha, by rw [hio]; exact insO_up h.up hft h.fit hm, by rw [hio, insO_len]; omega, plus_not h.nok h.lt⟩
theorem root_new {ok : Nat → Prop} {W W4 w6 V : World} {bs l r cm : Nat} {Am : Option Addr} {mid : Tp} {L R : BT} (hs4 : W.heap.size ≤ W4.heap.size) (hb6 : Below W4.heap.size W4 w6) (hEl : El KT w6 (Plus (Plus ok W.heap.size) W4.heap.size) mid (.slice Am mid.length cm)) (hNl : NodeF (Plus (Plus ok W.heap.size) W4.heap.size) w6 l L) (hNr : NodeF (Plus (Plus ok W.heap.size) W4.heap.size) w6 r R) (hpn : ¬ Plus ok W.heap.size bs) (hbs : bs < w6.heap.size)
    (hV : ∀ k, k ≠ bs → V.heap[k]? = (((w6.alloc (.cells #[.slice Am mid.length cm] 23)).alloc (.cells #[.pointer (some ⟨l, 0, none⟩), .pointer (some ⟨r, 0, none⟩)] 126)).alloc (.cells #[.slice (some ⟨w6.heap.size, 0, none⟩) 1 1, .slice (some ⟨w6.heap.size + 1, 0, none⟩) 2 2] 132)).heap[k]?) : NodeF (Plus ok W.heap.size) V (w6.heap.size + 1 + 1) (.mk [mid] [L, R]) := by
  have up : ∀ k, Plus (Plus ok W.heap.size) W4.heap.size k → Plus ok W.heap.size k := fun k hk => hk.elim id fun h => .inr (Nat.le_trans hs4 h)
  have s6 := hb6.size
  obtain ⟨o1, ho1⟩ : ∃ o1, o1 = Obj.cells #[.slice Am mid.length cm] 23 (0, 0) := ⟨_, rfl⟩
  obtain ⟨o2, ho2⟩ : ∃ o2, o2 = Obj.cells #[.pointer (some ⟨l, 0, none⟩), .pointer (some ⟨r, 0, none⟩)] 126 (0, 0) := ⟨_, rfl⟩
  obtain ⟨o3, ho3⟩ : ∃ o3, o3 = Obj.cells #[.slice (some ⟨w6.heap.size, 0, none⟩) 1 1, .slice (some ⟨w6.heap.size + 1, 0, none⟩) 2 2] 132 (0, 0) := ⟨_, rfl⟩
  rw [← ho1, ← ho2, ← ho3] at hV
  have z1 : (w6.alloc o1).heap.size = w6.heap.size + 1 := by simp
  have z2 : ((w6.alloc o1).alloc o2).heap.size = w6.heap.size + 1 + 1 := by simp
  have a1 := below_alloc (Below.refl w6.heap.size w6) o1
  have a2 := below_alloc (Below.refl (w6.alloc o1).heap.size (w6.alloc o1)) o2
  have a3 := below_alloc (Below.refl ((w6.alloc o1).alloc o2).heap.size ((w6.alloc o1).alloc o2)) o3
  have h1 : V.heap[w6.heap.size]? = some o1 := by rw [hV _ (by omega)]; exact blk a3 (blk a2 (heap_alloc_new w6 o1))
  have h2 : V.heap[w6.heap.size + 1]? = some o2 := by rw [hV _ (by omega), ← z1]; exact blk a3 (heap_alloc_new (w6.alloc o1) o2)
  have h3 : V.heap[w6.heap.size + 1 + 1]? = some o3 := by rw [hV _ (by omega), ← z2]; exact heap_alloc_new ((w6.alloc o1).alloc o2) o3
  have hk : ∀ k, k ≠ bs → k < w6.heap.size → V.heap[k]? = w6.heap[k]? := fun k hk hlt => by
    rw [hV k hk, a3.block k (by omega), a2.block k (by omega), a1.block k hlt]
  have hfp : ∀ k, Plus (Plus ok W.heap.size) W4.heap.size k → k < w6.heap.size → V.heap[k]? = w6.heap[k]? := fun k hk' hlt => hk k (fun e => hpn (e ▸ up k hk')) hlt
  subst ho1 ho2 ho3
  have w2 : Kd.F KT V (Plus ok W.heap.size) (some ⟨w6.heap.size, 0, none⟩) 1 [mid] := by
    obtain ⟨A, c, e, hle, hF⟩ := rows_in (d := KT) (W := V) (ok := Plus ok W.heap.size) (base := 0) (e := 23) (v := .slice (some ⟨w6.heap.size, 0, none⟩) 1 1) (n := 1) (xs := [mid]) (us := [.slice Am mid.length cm]) rfl ⟨rfl, .inr ⟨_, 1, _, rfl, Nat.zero_le _, h1, Nat.le_refl _, by unfold maxLen; omega, rfl, rfl⟩⟩ (.cons ((hEl.step hfp).mono up) .nil) rfl
    injection e with e1 e2 e3
    subst e1
    refine Kd.F_mono hF fun k hk => hk.elim id fun hk => .inr ?_
    have : k = w6.heap.size := by simpa [Value.ownBlock] using hk
    omega
  have w3 : Kd.F KN V (Plus ok W.heap.size) (some ⟨w6.heap.size + 1, 0, none⟩) 2 [l, r] := by
    obtain ⟨A, c, e, hle, hF⟩ := rows_in (d := KN) (W := V) (ok := Plus ok W.heap.size) (base := 0) (e := 126) (v := .slice (some ⟨w6.heap.size + 1, 0, none⟩) 2 2) (n := 2) (xs := [l, r]) (us := [.pointer (some ⟨l, 0, none⟩), .pointer (some ⟨r, 0, none⟩)]) rfl ⟨rfl, .inr ⟨_, 2, _, rfl, Nat.zero_le _, h2, Nat.le_refl _, by unfold maxLen; omega, rfl, rfl⟩⟩ (.cons (nod_el l) (.cons (nod_el r) .nil)) rfl
    injection e with e1 e2 e3
    subst e1
    refine Kd.F_mono hF fun k hk => hk.elim id fun hk => .inr ?_
    have : k = w6.heap.size + 1 := by simpa [Value.ownBlock] using hk
    omega
  have hE : Els (NodeF (Plus ok W.heap.size) V) [l, r] [L, R] := .cons ((hNl.step hfp).mono up) (.cons ((hNr.step hfp).mono up) .nil)
  exact .mk _ (some ⟨w6.heap.size, 0, none⟩) 1 (some ⟨w6.heap.size + 1, 0, none⟩) 2 [mid] [L, R] [l, r] (.inr (by omega)) ((cell_of_heap h3 0).trans rfl) ((cell_of_heap h3 1).trans rfl) (Nat.le_refl _) (Nat.le_refl _) rfl w2 w3 (fun j h1 h2 => hE.get j h2 h1)
set_option maxHeartbeats 4000000 in
set_option maxRecDepth 100000 in
theorem insert_put {ok : Nat → Prop} (W : World) (bs : Nat) {A : Option Addr} {c : Nat} {o : Tp} {rt : Nat} {T : BT} (h : SetAt ok W bs A c o rt T) (At : Option Addr) (ct : Nat) (t : Tp) (st : Sl W At ct t) (hl : t.length = o.length) (hm : t ∉ T.io) (hn : T.io.length < 1024) (htl : t.length ≤ 1000000) :
    Calls Tryz.prog 41 #[.pointer (some ⟨bs, 0, none⟩), .slice At t.length ct] W (InsR ok W bs A c o T t) := by
  have h0 := h.c0
  have h1 := h.c1
  have h2 := h.c2
  have h3 := h.c3
  have HC := Aside0.mk (has_calls W bs h At ct t st)
  have HA := Aside0.mk h
  have hd := decide_eq_true hl
  have hft : Fit o t := ⟨hl, h.rto⟩
  have ha : Aside0 (insAns o T.io t = (true, 0)) := ⟨by simp [insAns, hl, hm, show ¬ 1024 ≤ T.io.length by omega]⟩
  have hd2 := decide_eq_false hm
  rw [hd2] at HC
  obtain ⟨n, hnn⟩ : ∃ n, n = T.io.length := ⟨_, rfl⟩
  rw [← hnn] at h3 hn
  have hn3 : ¬ (n : Int) ≥ 1024 := by omega
  have hn4 : (n : Int) < 1024 := by omega
  have hw1 : IntKind.i64.wrap ((n : Int) + 1) = (n : Int) + 1 := by rw [IntKind.wrap_i64]; omega
  have HP := Aside0.mk (show ∀ (X : World) (fp : Nat → Prop), (∀ k, ok k → fp k) → Since W X → ∀ A' c', t.length ≤ c' → Kd.F (Kd.int .i64) X fp A' t.length t → Calls Tryz.prog 67 #[.pointer (some ⟨bs, 0, none⟩), .pointer (some ⟨rt, 0, none⟩), .slice A' t.length c'] X (PutR fp X o t T) from
    fun X fp hfp hX A' c' hc' hF => put_calls _ T (Nat.lt_succ_self _) X bs A c o (pw_cell_below hX.b h1) (hX.sl h.sl) rt ((h.nd.under hX.b).mono hfp) h.wf h.up h.fit (by omega) A' c' t hF hc' hft hm)
  have HNN := Aside0.mk hnn
  have HN := Aside0.mk hn
  have HM := Aside0.mk hm
  have HFT := Aside0.mk hft
  have HTL := Aside0.mk htl
  have HST := Aside0.mk st
  have HLT := Aside0.mk h.lt
  have HKP := Aside0.mk (show ∀ w', Since W w' → w'.cell? ⟨bs, 2, none⟩ = some (.pointer (some ⟨rt, 0, none⟩)) ∧ Since W w' from fun w' hs => ⟨pw_cell_below hs.b h2, hs⟩)
  clear h hl hm hd2 hnn hft st htl h2
  go_enter Tryz.func41, Tryz.ntmps41
  go_wp2_with (first
    | (go_at_call 64; refine (ok_calls _ bs h0).mono ?_; rintro e w' ⟨rfl, rfl⟩)
    | (go_at_call 65; refine (fits_calls _ bs A c o h0 h1 At ct t).mono ?_; rw [hd]; rintro e w' ⟨rfl, rfl⟩)
    | (go_at_call 66; refine HC.out.mono ?_; rintro e w1 ⟨rfl, hb⟩; have h3w := pw_cell_below hb h3))
  have hS1 := (Since.mk hb).drew
  have h2d := (HKP.out _ hS1).1
  have HB := Aside0.mk hb
  have hp1 := Aside0.mk (blk hb HA.out.hp)
  clear hb
  go_region_with (first
    | (go_at_call 44; ((with_reducible refine (cloneI_calls _ At ct t ?s1 HTL.out).mono ?_)); (case s1 => exact hS1.sl HST.out); rintro e w2 ⟨A2, c2, rfl, hc2, hF2, hb2⟩; have h2w := pw_cell_below hb2 h2d)
    | (go_at_call 67; ((with_reducible refine (HP.out w2 (Plus ok w1.drew.heap.size) (plus_l ok _) (hS1.step hb2) A2 c2 hc2 (Kd.F_mono hF2 (plus_r ok _))).mono ?_)); rintro e w3 ⟨rt', T', rfl, hb3, hNd, hOk, hIo⟩; have h2x := pw_cell_below hb3 h2w; have f2x := free_of_heap (blk hb3 (blk hb2 hp1.out)) 2))
  all_goals (
    have s1 : W.heap.size ≤ w1.drew.heap.size := hS1.b.size
    have s2 : W.heap.size ≤ w2.heap.size := (hS1.step hb2).b.size
    have hNd' : NodeF (Plus ok W.heap.size) w3 rt' T' := hNd.mono fun k hk => by
      rcases hk with (hk | hk) | hk
      · exact .inl hk
      · exact .inr (Nat.le_trans s1 hk)
      · exact .inr (Nat.le_trans s2 hk)
    have hpn := plus_not HA.out.nok HA.out.lt
    obtain ⟨W4, hW4⟩ : ∃ W4, W4 = w3.setCell ⟨bs, 2, none⟩ (.pointer (some ⟨rt', 0, none⟩)) := ⟨_, rfl⟩
    have hp4 := heap_setCell_same w3 bs 2 _ _ (.pointer (some ⟨rt', 0, none⟩)) (blk hb3 (blk hb2 hp1.out))
    have hk4 : Kept1 bs W W4 := by rw [hW4]; exact (Kept1.below ((hS1.step hb2).step hb3).b).trans (Kept1.set _ _ _ _)
    have hN4 : NodeF (Plus ok W.heap.size) W4 rt' T' := by rw [hW4]; exact hNd'.step fun k hk _ => Below.heap_setCell _ _ _ _ (fun e : k = bs => hpn (e ▸ hk))
    rw [← hW4] at hp4
    rw [← hW4]
    have hlen : T'.io.length ≤ 1024 := by have := HN.out; rw [hIo, insO_len, ← HNN.out]; omega
    obtain ⟨ts', kids', n', A0', c0', hKe, hn', hk5⟩ := node_top hN4
    have hn2 : n' ≤ 1024 := by
      subst hKe
      have := weave_len (kids'.map BT.io) ts' (io_ts hOk)
      rw [← BT.io_mk] at this
      omega
    rw [← HNN.out] at hp4
    replace hp4 : W4.heap[bs]? = some (.cells #[.bool true, .slice A o.length c, .pointer (some ⟨rt', 0, none⟩), .int .i64 (n : Int)] 128 (0, 0)) := by simpa using hp4
    have HSP := Aside0.mk (show 15 < n' → ∃ mid L R, ((BT.mk [mid] [L, R]).Ok ∧ (BT.mk [mid] [L, R]).io = insO o t T.io) ∧ Calls Tryz.prog 68 #[.pointer (some ⟨rt', 0, none⟩)] W4 (SplF (Plus ok W.heap.size) W4 mid L R) from fun hbig => by
      subst hKe
      have hpu := root_io ts' kids' hOk (ts'.length / 2) (by omega)
      rw [hIo] at hpu
      exact ⟨_, _, _, hpu, split_spl hN4 hOk (by omega) (by omega)⟩)
    have HP4 := Aside0.mk hp4
    have HK4 := Aside0.mk hk4
    have HN4 := Aside0.mk hN4
    have HPN := Aside0.mk hpn
    have HIO := Aside0.mk hIo
    have HOK := Aside0.mk hOk
    have r0 := (cell_of_heap hp4 2).trans rfl
    have r1 := (cell_of_heap hp4 3).trans rfl
    have r2 := free_of_heap hp4 2
    have r3 := free_of_heap hp4 3
    clear h2d h2w h2x f2x hNd hNd' hW4 hb3 hb2 hF2 hS1 hp4 hk4 hN4 hpn hIo hOk hKe hn' h0 h1 h3 h3w s1 s2 hlen)
  all_goals by_cases hbig : 15 < n'
  all_goals first
    | (have hb2 : ¬ (n' : Int) > 15 := by omega
       have HB2 := Aside0.mk hbig
       clear hbig
       go_wp2
       go_ret2
       have hp5 := heap_setCell_same W4 bs 3 _ _ (.int .i64 ((n : Int) + 1)) HP4.out
       have hk5 : Kept1 bs W (W4.setCell ⟨bs, 3, none⟩ (.int .i64 ((n : Int) + 1))) := HK4.out.trans (Kept1.set _ _ _ _)
       refine ⟨rt', T', by rw [ha.out]; rfl, ?_, by unfold insTo; rw [ha.out]; exact HIO.out, hk5⟩
       exact set_new HA.out hk5 (by rw [HIO.out, insO_len, ← HNN.out]; simpa using hp5) (HN4.out.step fun k hk _ => Below.heap_setCell _ _ _ _ (fun e : k = bs => HPN.out (e ▸ hk))) HOK.out HIO.out HFT.out HM.out (by rw [← HNN.out]; exact HN.out))
    | (have hb2 : (n' : Int) > 15 := by omega
       go_wp2_with (first
        | (go_at_call 68; obtain ⟨mid, L, R, hpure, hcalls⟩ := HSP.out (by omega); ((with_reducible refine hcalls.mono ?_)); rintro e w6 ⟨l, r, Am, cm, rfl, hb6, hEl, hNl, hNr⟩;
           have hz := blk (below_alloc (Below.refl _ _) (.cells #[.slice (some ⟨w6.heap.size, 0, none⟩) 1 1, .slice (some ⟨w6.heap.size + 1, 0, none⟩) 2 2] 132)) (blk (below_alloc (Below.refl _ _) (.cells #[.pointer (some ⟨l, 0, none⟩), .pointer (some ⟨r, 0, none⟩)] 126)) (blk (below_alloc (Below.refl _ _) (.cells #[.slice Am mid.length cm] 23)) (blk hb6 HP4.out)));
           have z0 := (cell_of_heap hz 2).trans rfl; have z1 := (cell_of_heap hz 3).trans rfl; have z2 := free_of_heap hz 2; have z3 := free_of_heap hz 3; have HZ := Aside0.mk hz; have HPU := Aside0.mk hpure; have HEL := Aside0.mk hEl; have HNL := Aside0.mk hNl; have HNR := Aside0.mk hNr; have HB6 := Aside0.mk hb6; clear hz hpure hcalls hb6 hEl hNl hNr))
       go_ret2
       have hs4 := HK4.out.g.size
       have hlt := HLT.out
       have hs6 := HB6.out.size
       obtain ⟨Z, hZ⟩ : ∃ Z, Z = ((w6.alloc (.cells #[.slice Am mid.length cm] 23)).alloc (.cells #[.pointer (some ⟨l, 0, none⟩), .pointer (some ⟨r, 0, none⟩)] 126)).alloc (.cells #[.slice (some ⟨w6.heap.size, 0, none⟩) 1 1, .slice (some ⟨w6.heap.size + 1, 0, none⟩) 2 2] 132) := ⟨_, rfl⟩
       have hkZ : Kept1 bs W Z := by rw [hZ]; exact HK4.out.trans (.below ((((Since.mk HB6.out).alloc _).alloc _).alloc _).b)
       have hp := HZ.out
       rw [← hZ] at hp
       have hroot := root_new (V := (Z.setCell ⟨bs, 2, none⟩ (.pointer (some ⟨w6.heap.size + 1 + 1, 0, none⟩))).setCell ⟨bs, 3, none⟩ (.int .i64 ((n : Int) + 1))) hs4 HB6.out HEL.out HNL.out HNR.out HPN.out (by omega) (fun k hk => by rw [Below.heap_setCell _ _ _ _ hk, Below.heap_setCell _ _ _ _ hk, hZ])
       rw [← hZ]
       have hp5 := heap_setCell_same _ bs 3 _ _ (.int .i64 ((n : Int) + 1)) (heap_setCell_same Z bs 2 _ _ (.pointer (some ⟨w6.heap.size + 1 + 1, 0, none⟩)) hp)
       have hk5 := (hkZ.trans (Kept1.set bs Z 2 (.pointer (some ⟨w6.heap.size + 1 + 1, 0, none⟩)))).trans (Kept1.set bs _ 3 (.int .i64 ((n : Int) + 1)))
       refine ⟨w6.heap.size + 1 + 1, BT.mk [mid] [L, R], by rw [ha.out]; rfl, ?_, by unfold insTo; rw [ha.out]; exact HPU.out.2, hk5⟩
       exact set_new HA.out hk5 (by rw [HPU.out.2, insO_len, ← HNN.out]; simpa using hp5) hroot HPU.out.1 HPU.out.2 HFT.out HM.out (by rw [← HNN.out]; exact HN.out))
theorem insert_calls {ok : Nat → Prop} (W : World) (bs : Nat) {A : Option Addr} {c : Nat} {o : Tp} {rt : Nat} {T : BT} (h : SetAt ok W bs A c o rt T) (At : Option Addr) (ct : Nat) (t : Tp) (st : Sl W At ct t) (hol : o.length ≤ 1000000) :
    Calls Tryz.prog 41 #[.pointer (some ⟨bs, 0, none⟩), .slice At t.length ct] W (InsR ok W bs A c o T t) := by
  by_cases hl : t.length = o.length
  · by_cases hm : t ∈ T.io
    · exact insert_not W bs h At ct t st hl (.inl hm)
    · by_cases hn : 1024 ≤ T.io.length
      · exact insert_not W bs h At ct t st hl (.inr hn)
      · exact insert_put W bs h At ct t st hl hm (by omega) (by omega)
  · exact insert_width W bs h At ct t hl
end Go.Proofs.YtcmllllbmgcnlaaGreat.Tup
end
