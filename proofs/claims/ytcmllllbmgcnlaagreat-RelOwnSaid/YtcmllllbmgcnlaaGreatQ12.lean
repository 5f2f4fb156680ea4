/- Own texts, joined and cut to what the claim stands on: BtSet, BtClT, BtClN, BtClI. -/
import Derived.WalkSpells
import Derived.Lib.LazyBuf
import Derived.Test.YtcmllllbmgcnlaaGreatQ11
section
namespace Go.Proofs.YtcmllllbmgcnlaaGreat.Tup
open Go.RowKit Go.Proofs.YtcmllllbmgcnlaaGreat.G Go.Proofs.YtcmllllbmgcnlaaGreatW.PrintWords Go.Proofs.YtcmllllbmgcnlaaGreatW.PrintLast Go.Proofs.YtcmllllbmgcnlaaGreatW.PrintMore
set_option linter.unusedVariables false
set_option linter.unusedSimpArgs false
structure SetAt (ok : Nat → Prop) (W : World) (bs : Nat) (A : Option Addr) (c : Nat) (o : Tp) (rt : Nat) (T : BT) : Prop where
  hp : W.heap[bs]? = some (.cells #[.bool true, .slice A o.length c, .pointer (some ⟨rt, 0, none⟩), .int .i64 (T.io.length : Int)] 128 (0, 0))
  so : o.length ≤ c
  F : Kd.F (Kd.int .i64) W ok A o.length o
  nd : NodeF ok W rt T
  wf : T.Ok
  rto : Rt o
  fit : ∀ a ∈ T.io, Fit o a
  up : Up o T.io
  le : T.io.length ≤ 1024
  nok : ¬ ok bs
theorem SetAt.step {ok : Nat → Prop} {W W1 : World} {bs : Nat} {A : Option Addr} {c : Nat} {o : Tp} {rt : Nat} {T : BT} (h : SetAt ok W bs A c o rt T) (hm : ∀ k, ok k → k < W.heap.size → W1.heap[k]? = W.heap[k]?) (hb : W1.heap[bs]? = W.heap[bs]?) : SetAt ok W1 bs A c o rt T :=
  ⟨hb.trans h.hp, h.so, Kd.F_step h.F hm, h.nd.step hm, h.wf, h.rto, h.fit, h.up, h.le, h.nok⟩
theorem SetAt.lt {ok : Nat → Prop} {W : World} {bs : Nat} {A : Option Addr} {c : Nat} {o : Tp} {rt : Nat} {T : BT} (h : SetAt ok W bs A c o rt T) : bs < W.heap.size := (Array.getElem?_eq_some_iff.1 h.hp).1
theorem SetAt.since {ok : Nat → Prop} {W W1 : World} {bs : Nat} {A : Option Addr} {c : Nat} {o : Tp} {rt : Nat} {T : BT} (h : SetAt ok W bs A c o rt T) (hs : Since W W1) : SetAt ok W1 bs A c o rt T :=
  h.step (fun k _ hk => hs.b.block k hk) (hs.b.block _ h.lt)
theorem SetAt.sl {ok : Nat → Prop} {W : World} {bs : Nat} {A : Option Addr} {c : Nat} {o : Tp} {rt : Nat} {T : BT} (h : SetAt ok W bs A c o rt T) : Sl W A c o := ⟨Kd.F_now h.F, h.so⟩
theorem SetAt.c0 {ok : Nat → Prop} {W : World} {bs : Nat} {A : Option Addr} {c : Nat} {o : Tp} {rt : Nat} {T : BT} (h : SetAt ok W bs A c o rt T) : W.cell? ⟨bs, 0, none⟩ = some (.bool true) := (cell_of_heap h.hp 0).trans rfl
theorem SetAt.c1 {ok : Nat → Prop} {W : World} {bs : Nat} {A : Option Addr} {c : Nat} {o : Tp} {rt : Nat} {T : BT} (h : SetAt ok W bs A c o rt T) : W.cell? ⟨bs, 1, none⟩ = some (.slice A o.length c) := (cell_of_heap h.hp 1).trans rfl
theorem SetAt.c2 {ok : Nat → Prop} {W : World} {bs : Nat} {A : Option Addr} {c : Nat} {o : Tp} {rt : Nat} {T : BT} (h : SetAt ok W bs A c o rt T) : W.cell? ⟨bs, 2, none⟩ = some (.pointer (some ⟨rt, 0, none⟩)) := (cell_of_heap h.hp 2).trans rfl
theorem SetAt.c3 {ok : Nat → Prop} {W : World} {bs : Nat} {A : Option Addr} {c : Nat} {o : Tp} {rt : Nat} {T : BT} (h : SetAt ok W bs A c o rt T) : W.cell? ⟨bs, 3, none⟩ = some (.int .i64 (T.io.length : Int)) := (cell_of_heap h.hp 3).trans rfl
set_option maxHeartbeats 1000000 in
set_option maxRecDepth 100000 in
theorem ok_calls (W : World) (bs : Nat) (h : W.cell? ⟨bs, 0, none⟩ = some (.bool true)) :
    Calls Tryz.prog 64 #[.pointer (some ⟨bs, 0, none⟩)] W fun e w' => e = .returned (.bool true) ∧ W = w' := by
  go_enter Tryz.func64, Tryz.ntmps64
  go_wp2
  go_ret
  exact ⟨rfl, rfl⟩
set_option maxHeartbeats 1000000 in
set_option maxRecDepth 100000 in
theorem fits_calls (W : World) (bs : Nat) (Ao : Option Addr) (co : Nat) (o : Tp) (h : W.cell? ⟨bs, 0, none⟩ = some (.bool true)) (h1 : W.cell? ⟨bs, 1, none⟩ = some (.slice Ao o.length co)) (At : Option Addr) (ct : Nat) (t : Tp) :
    Calls Tryz.prog 65 #[.pointer (some ⟨bs, 0, none⟩), .slice At t.length ct] W fun e w' => e = .returned (.bool (decide (t.length = o.length))) ∧ W = w' := by
  go_enter Tryz.func65, Tryz.ntmps65
  go_wp2_with (go_at_call 64; refine (ok_calls _ bs h).mono ?_; rintro e w' ⟨rfl, rfl⟩)
  go_ret
  refine ⟨?_, rfl⟩
  by_cases hl : t.length = o.length
  · simp [hl]
  · simp [hl]; omega
theorem io_ts {ts : List Tp} {kids : List BT} (h : (BT.mk ts kids).Ok) : kids.map BT.io = [] ∨ (kids.map BT.io).length = ts.length + 1 := by
  rcases ((BT.ok_mk ts kids).1 h).1 with h | h
  · left; simp [h]
  · right; simp [h]
theorem Up.kid {o : Tp} {ts : List Tp} {kids : List BT} (hok : (BT.mk ts kids).Ok) (hu : Up o (BT.mk ts kids).io) (i : Nat) (hi : i < kids.length) : Up o (kids[i]).io ∧ ∀ a ∈ (kids[i]).io, a ∈ (BT.mk ts kids).io := by
  rw [BT.io_mk] at hu ⊢
  rcases ((BT.ok_mk ts kids).1 hok).1 with h | h
  · simp [h] at hi
  · have e := weave_at (kids.map BT.io) ts i (by simp [h]) (by omega)
    have eg : (kids.map BT.io)[i]?.getD [] = (kids[i]).io := by simp [hi]
    rw [eg] at e
    rw [e] at hu ⊢
    unfold Up at hu ⊢
    rw [List.pairwise_append, List.pairwise_append] at hu
    exact ⟨hu.2.1.1, fun a ha => by simp [ha]⟩
theorem mem_kid {o t : Tp} {ts : List Tp} {kids : List BT} (hok : (BT.mk ts kids).Ok) (hu : Up o (BT.mk ts kids).io) (hf : ∀ a ∈ (BT.mk ts kids).io, Fit o a) (ht : Fit o t) (hn : t ∉ ts) (hk : kids ≠ []) :
    ∃ h : idx o ts t < kids.length, (t ∈ (BT.mk ts kids).io ↔ t ∈ (kids[idx o ts t]).io) := by
  have hl : kids.length = ts.length + 1 := by
    rcases ((BT.ok_mk ts kids).1 hok).1 with h | h
    · exact absurd h hk
    · exact h
  have hi := idx_le o ts t
  refine ⟨by omega, ?_⟩
  rw [BT.io_mk] at hu hf ⊢
  obtain ⟨hA, hB⟩ := around (by simp [hl]) hu hf ht hn
  rw [weave_at (kids.map BT.io) ts (idx o ts t) (by simp [hl]) hi]
  have eg : (kids.map BT.io)[idx o ts t]?.getD [] = (kids[idx o ts t]'(by omega)).io := by
    rw [List.getElem?_map, List.getElem?_eq_getElem (by omega)]; rfl
  rw [eg, List.mem_append, List.mem_append]
  constructor
  · rintro (h | h | h)
    · exact absurd (hA t h) Lt.irrefl
    · exact h
    · exact absurd (hB t h) Lt.irrefl
  · intro h; exact .inr (.inl h)
set_option maxHeartbeats 2000000 in
set_option maxRecDepth 100000 in
theorem has_calls {ok : Nat → Prop} (W : World) (bs : Nat) {A : Option Addr} {c : Nat} {o : Tp} {rt : Nat} {T : BT} (h : SetAt ok W bs A c o rt T) (At : Option Addr) (ct : Nat) (t : Tp) (st : Sl W At ct t) :
    Calls Tryz.prog 66 #[.pointer (some ⟨bs, 0, none⟩), .slice At t.length ct] W fun e w' => e = .returned (.bool (decide (t ∈ T.io))) ∧ Below W.heap.size W w' := by
  have h0 := h.c0
  have h1 := h.c1
  have h2 := h.c2
  by_cases hl : t.length = o.length
  · have hft : Fit o t := ⟨hl, h.rto⟩
    have so := h.sl
    have hnd := h.nd
    have hwf := h.wf
    have hfit := h.fit
    have hup := h.up
    have hle := h.le
    have hD := decide_eq_true hl
    have HN := Aside0.mk hnd
    have HW := Aside0.mk hwf
    have HFI := Aside0.mk hfit
    have HU := Aside0.mk hup
    have HL := Aside0.mk hle
    have H1 := Aside0.mk h1
    clear hl h hnd hwf hfit hup hle
    go_enter Tryz.func66, Tryz.ntmps66
    go_wp2_with (go_at_call 65; refine (fits_calls _ bs A c o h0 h1 At ct t).mono ?_; rw [hD]; rintro e w' ⟨rfl, rfl⟩)
    clear h1 h2 hD
    go_loopg [5] (SizeOf.sizeOf T) (fun gk v5 w' => ∃ (b : Nat) (T' : BT), v5 = .pointer (some ⟨b, 0, none⟩) ∧ Aside0 (SizeOf.sizeOf T' ≤ gk) ∧ Aside0 (NodeF ok w' b T') ∧ Aside0 T'.Ok ∧ Aside0 (∀ a ∈ T'.io, Fit o a) ∧ Aside0 (Up o T'.io) ∧ Aside0 (T'.io.length ≤ 1024) ∧ Aside0 (t ∈ T.io ↔ t ∈ T'.io) ∧ Aside0 (Since W w'))
    case atStart => exact ⟨rt, T, rfl, ⟨Nat.le_refl _⟩, HN, HW, HFI, HU, HL, ⟨Iff.rfl⟩, ⟨Since.refl W⟩⟩
    case round =>
      obtain ⟨b, T', rfl, HK, HN', HW', HF', HU', HL', HI', HS⟩ := hrel
      clear HN HW HFI HU HL
      have hnd := HN'.out
      cases hnd with
      | mk b A0 c0' A1 c1' ts kids ps hok hc0 hc1 hle0 hle1 hlp hT hNd hk =>
        have hus := Up.ts (io_ts HW'.out) (by rw [← BT.io_mk]; exact HU'.out)
        have htl : ts.length ≤ 1000000 := by
          have := weave_len (kids.map BT.io) ts (io_ts HW'.out)
          rw [← BT.io_mk] at this
          have := HL'.out
          omega
        have htf : ∀ a ∈ ts, Fit o a := fun a ha => HF'.out a (by rw [BT.io_mk]; exact weave_mem_ts _ _ (io_ts HW'.out) a ha)
        have hcs : wr.cell? ⟨bs, 1, none⟩ = some (.slice A o.length c) := pw_cell_below HS.out.b H1.out
        have HT := Aside0.mk hT
        have HND := Aside0.mk hNd
        have HKI := Aside0.mk hk
        have HLP := Aside0.mk hlp
        have HC0 := Aside0.mk hc0
        have HC1 := Aside0.mk hc1
        have HUS := Aside0.mk hus
        have HTF := Aside0.mk htf
        clear hT hNd hk hlp hus htf hc1
        by_cases hin : t ∈ ts
        · have hin2 := decide_eq_true hin
          have HIN := Aside0.mk hin
          clear hin
          go_wp2_with (go_at_call 87; refine (find_calls _ bs A c o hcs (HS.out.sl so) b A0 c0' ts hc0 (Kd.F_now HT.out) htl hle0 HTF.out HUS.out At ct t (HS.out.sl st) hft).mono ?_; rw [hin2]; rintro e w1 ⟨rfl, hb⟩; have HS1 := Aside0.mk (HS.out.step hb); clear hb)
          go_ret
          refine ⟨?_, HS1.out.b⟩
          rw [decide_eq_true (HI'.out.2 (by rw [BT.io_mk]; exact weave_mem_ts _ _ (io_ts HW'.out) t HIN.out))]; rfl
        · have hin2 := decide_eq_false hin
          have HIN := Aside0.mk hin
          clear hin
          by_cases hkid : kids = []
          · have hp0 : ps.length = 0 := by rw [HLP.out, hkid]; rfl
            have HP0 := Aside0.mk hp0
            have hcc : ∀ w1, Below wr.heap.size wr w1 → w1.cell? ⟨b, 1, none⟩ = some (.slice A1 0 c1') := fun w1 hb => by have := pw_cell_below hb HC1.out; rwa [HP0.out] at this
            have HCC := Aside0.mk hcc
            have HKD := Aside0.mk hkid
            clear hp0 hcc hkid
            go_wp2_with (go_at_call 87; refine (find_calls _ bs A c o hcs (HS.out.sl so) b A0 c0' ts hc0 (Kd.F_now HT.out) htl hle0 HTF.out HUS.out At ct t (HS.out.sl st) hft).mono ?_; rw [hin2]; rintro e w1 ⟨rfl, hb⟩; have HS1 := Aside0.mk (HS.out.step hb); have hc1n := HCC.out _ hb; clear hb)
            go_ret
            refine ⟨?_, HS1.out.b⟩
            have hno : t ∉ T.io := by
              intro hm
              have := HI'.out.1 hm
              rw [BT.io_mk, HKD.out] at this
              exact HIN.out (by simpa [weave] using this)
            rw [decide_eq_false hno]; rfl
          · obtain ⟨hik, hiff⟩ := mem_kid HW'.out HU'.out HF'.out hft HIN.out hkid
            have hne : ¬ ps.length = 0 := by rw [HLP.out]; intro e; exact hkid (List.length_eq_zero_iff.1 e)
            have hne2 : ((ps.length : Int) == 0) = false := beq_eq_false_iff_ne.2 (by omega)
            have hneN : (ps.length == 0) = false := beq_eq_false_iff_ne.2 hne
            obtain ⟨i, hi⟩ : ∃ i, i = idx o ts t := ⟨_, rfl⟩
            have hip : i < ps.length := by rw [HLP.out, hi]; exact hik
            obtain ⟨ad, e1, hcel⟩ := nod_at (Kd.F_now HND.out) i hip
            subst e1
            have HCE := Aside0.mk hcel
            have HII := Aside0.mk hi
            have HIFF := Aside0.mk hiff
            have HIK := Aside0.mk hik
            have hiI : (i : Int) < (ps.length : Int) := by omega
            clear hne hcel hi hiff hkid
            go_wp2_with (go_at_call 87; refine (find_calls _ bs A c o hcs (HS.out.sl so) b A0 c0' ts hc0 (Kd.F_now HT.out) htl hle0 HTF.out HUS.out At ct t (HS.out.sl st) hft).mono ?_; rw [hin2, ← HII.out]; rintro e w1 ⟨rfl, hb⟩; have HS1 := Aside0.mk (HS.out.step hb); have hc1n := pw_cell_below hb HC1.out; have hc2n := pw_cell_below hb HCE.out; have HB := Aside0.mk hb; clear hb)
            obtain ⟨k2, hk2⟩ : ∃ k2, k2 = gk - 1 := ⟨_, rfl⟩
            have hsz : SizeOf.sizeOf (kids[i]'(by rw [HII.out]; exact HIK.out)) < SizeOf.sizeOf (BT.mk ts kids) := by
              have := List.sizeOf_lt_of_mem (List.getElem_mem (l := kids) (n := i) (by rw [HII.out]; exact HIK.out))
              simp only [BT.mk.sizeOf_spec]; omega
            go_roundg k2
            case measure => have := HK.out; omega
            case rel =>
              have hik2 : i < kids.length := by rw [HII.out]; exact HIK.out
              have hu2 := Up.kid HW'.out HU'.out i hik2
              refine ⟨ps[i], kids[i], rfl, ⟨by have := HK.out; omega⟩, ⟨(HKI.out i hik2 hip).under HB.out⟩, ⟨((BT.ok_mk ts kids).1 HW'.out).2 _ (List.getElem_mem _)⟩, ⟨fun a ha => HF'.out a (hu2.2 a ha)⟩, ⟨hu2.1⟩, ⟨?_⟩, ⟨HI'.out.trans ?_⟩, HS1⟩
              · have h1 := HL'.out
                have h2 : (kids[i]).io.length ≤ (BT.mk ts kids).io.length := by
                  rw [BT.io_mk, weave_at (kids.map BT.io) ts i (by have := io_ts HW'.out; rcases this with h | h; · simp at h; simp [h] at hik2
                                                                   · exact h) (by rw [HII.out]; exact idx_le _ _ _)]
                  have eg : (kids.map BT.io)[i]?.getD [] = (kids[i]).io := by simp [hik2]
                  rw [eg]; simp; omega
                omega
              · have := HIFF.out
                simp only [← HII.out] at this
                exact this
  · have hnot : t ∉ T.io := fun hm => hl (h.fit t hm).1
    have HNO := Aside0.mk hnot
    have hD := decide_eq_false hl
    clear h hl hnot
    go_enter Tryz.func66, Tryz.ntmps66
    go_wp2_with (go_at_call 65; refine (fits_calls _ bs A c o h0 h1 At ct t).mono ?_; rw [hD]; rintro e w' ⟨rfl, rfl⟩)
    go_ret
    exact ⟨by rw [decide_eq_false HNO.out]; rfl, Below.refl _ _⟩
end Go.Proofs.YtcmllllbmgcnlaaGreat.Tup
end
section
namespace Go.Proofs.YtcmllllbmgcnlaaGreat.Tup
open Go.RowKit Go.Lib Go.Proofs.YtcmllllbmgcnlaaGreat.G Go.Proofs.YtcmllllbmgcnlaaGreatW.PrintWords Go.Proofs.YtcmllllbmgcnlaaGreatW.PrintLast Go.Proofs.YtcmllllbmgcnlaaGreatW.PrintMore
set_option linter.unusedVariables false
set_option linter.unusedSimpArgs false
theorem clT_info : (Tryz.prog.info? 23).map (fun i => (i.zero, i.size, i.bytes)) = some (some (.slice none 0 0), 1, 24) := by kernel_rfl
set_option maxHeartbeats 2000000 in
set_option maxRecDepth 100000 in
theorem clT_nil (w : World) (c : Nat) : Calls Tryz.prog 90 #[.slice none 0 c] w fun e w' => e = .returned (.slice none 0 0) ∧ w = w' := by
  have q22 : ∀ (w : World) (a : Option Addr) (n c : Nat), (binOp .eql 44 (.slice a n c) (.slice none 0 0)).run Tryz.prog w = .ok (.bool a.isNone) w := fun w a n c => Lib.run_eql_slice_nil w 44 23 a n c 0 0 Tryz.underlying44
  go_enter Tryz.func90, Tryz.ntmps90
  go_wp2
  go_ret
  exact ⟨rfl, rfl⟩
def ClT (w : World) (n : Nat) (xs : List Value) (e : Ending) (w' : World) : Prop :=
  ∃ v', e = .returned v' ∧ w'.ownsRow w.heap.size 23 1 v' n xs ∧ Below w.heap.size w w'
set_option maxHeartbeats 2000000 in
set_option maxRecDepth 100000 in
theorem clT_some (w : World) (ad : Addr) (n c : Nat) (xs : List Value) (hl : xs.length = n) (hcs : ∀ j u, xs[j]? = some u → w.cell? (ad.add j) = some u) (h1 : ∀ u ∈ xs, u.oneCell' = true) (hn : n * 24 ≤ 140737488351232) (hn2 : n ≤ maxLen) :
    Calls Tryz.prog 90 #[.slice (some ad) n c] w (ClT w n xs) := by
  obtain ⟨i0, hi, hz0, hz1, hz2⟩ := info_parts clT_info
  have hcs2 : ∀ o : Obj, ∀ j u, xs[j]? = some u → (w.alloc o).cell? (ad.add j) = some u := fun o j u hj => pw_cell_below (below_alloc (Below.refl _ _) o) (hcs j u hj)
  have HH := Aside0.mk hcs2
  have H1 := Aside0.mk h1
  have HL := Aside0.mk hl
  clear hcs hcs2 h1 hl
  have q22 : ∀ (w : World) (a : Option Addr) (n c : Nat), (binOp .eql 44 (.slice a n c) (.slice none 0 0)).run Tryz.prog w = .ok (.bool a.isNone) w := fun w a n c => Lib.run_eql_slice_nil w 44 23 a n c 0 0 Tryz.underlying44
  go_enter Tryz.func90, Tryz.ntmps90
  go_wp2_with ((with_reducible refine gate_builtin (b := .append) (xs := #[.tmp 5, .tmp 6]) rfl ?_); refine wpList_append_own_at _ rfl _ _ 44 rfl w.heap.size 23 i0 (.slice none 0 0) 1 24 Tryz.underlying44 hi hz0 hz1 hz2 rfl (by decide) (.slice (some ⟨w.heap.size, 0, none⟩) 0 0) 0 [] rfl ⟨rfl, .inr ⟨w.heap.size, 0, #[], rfl, Nat.le_refl _, heap_alloc_new _ _, Nat.le_refl _, Nat.zero_le _, rfl, rfl⟩⟩ ad n c xs rfl (by have := HL.out; omega) (HH.out _) H1.out (by omega) (by omega) (by simp) ?_; intro v' w1 hown1 hg1 _ hat1)
  go_ret
  refine ⟨_, rfl, by simpa using hown1, ?_⟩
  exact (below_alloc (Below.refl _ _) _).grown hg1 (by simp) (fun k hk => by cases hk; exact Nat.le_refl _)
theorem clT_calls (w : World) (A : Option Addr) (n c : Nat) (xs : List Value) (hl : xs.length = n) (hA : A = none → n = 0) (hcs : ∀ ad, A = some ad → ∀ j u, xs[j]? = some u → w.cell? (ad.add j) = some u) (h1 : ∀ u ∈ xs, u.oneCell' = true) (hn : n * 24 ≤ 140737488351232) (hn2 : n ≤ maxLen) :
    Calls Tryz.prog 90 #[.slice A n c] w (ClT w n xs) := by
  cases A with
  | none =>
    obtain rfl := hA rfl
    refine (clT_nil w c).mono ?_
    rintro e w' ⟨rfl, rfl⟩
    exact ⟨_, rfl, ⟨by simpa using hl, .inl ⟨rfl, rfl⟩⟩, Below.refl _ _⟩
  | some ad => exact clT_some w ad n c xs hl (hcs ad rfl) h1 hn hn2
end Go.Proofs.YtcmllllbmgcnlaaGreat.Tup
end
section
namespace Go.Proofs.YtcmllllbmgcnlaaGreat.Tup
open Go.RowKit Go.Lib Go.Proofs.YtcmllllbmgcnlaaGreat.G Go.Proofs.YtcmllllbmgcnlaaGreatW.PrintWords Go.Proofs.YtcmllllbmgcnlaaGreatW.PrintLast Go.Proofs.YtcmllllbmgcnlaaGreatW.PrintMore
set_option linter.unusedVariables false
set_option linter.unusedSimpArgs false
theorem clN_info : (Tryz.prog.info? 126).map (fun i => (i.zero, i.size, i.bytes)) = some (some (.pointer none), 1, 8) := by kernel_rfl
set_option maxHeartbeats 2000000 in
set_option maxRecDepth 100000 in
theorem clN_nil (w : World) (c : Nat) : Calls Tryz.prog 88 #[.slice none 0 c] w fun e w' => e = .returned (.slice none 0 0) ∧ w = w' := by
  have q22 : ∀ (w : World) (a : Option Addr) (n c : Nat), (binOp .eql 130 (.slice a n c) (.slice none 0 0)).run Tryz.prog w = .ok (.bool a.isNone) w := fun w a n c => Lib.run_eql_slice_nil w 130 126 a n c 0 0 Tryz.underlying130
  go_enter Tryz.func88, Tryz.ntmps88
  go_wp2
  go_ret
  exact ⟨rfl, rfl⟩
def ClN (w : World) (n : Nat) (xs : List Value) (e : Ending) (w' : World) : Prop :=
  ∃ v', e = .returned v' ∧ w'.ownsRow w.heap.size 126 1 v' n xs ∧ Below w.heap.size w w'
set_option maxHeartbeats 2000000 in
set_option maxRecDepth 100000 in
theorem clN_some (w : World) (ad : Addr) (n c : Nat) (xs : List Value) (hl : xs.length = n) (hcs : ∀ j u, xs[j]? = some u → w.cell? (ad.add j) = some u) (h1 : ∀ u ∈ xs, u.oneCell' = true) (hn : n * 8 ≤ 140737488351232) (hn2 : n ≤ maxLen) :
    Calls Tryz.prog 88 #[.slice (some ad) n c] w (ClN w n xs) := by
  obtain ⟨i0, hi, hz0, hz1, hz2⟩ := info_parts clN_info
  have hcs2 : ∀ o : Obj, ∀ j u, xs[j]? = some u → (w.alloc o).cell? (ad.add j) = some u := fun o j u hj => pw_cell_below (below_alloc (Below.refl _ _) o) (hcs j u hj)
  have HH := Aside0.mk hcs2
  have H1 := Aside0.mk h1
  have HL := Aside0.mk hl
  clear hcs hcs2 h1 hl
  have q22 : ∀ (w : World) (a : Option Addr) (n c : Nat), (binOp .eql 130 (.slice a n c) (.slice none 0 0)).run Tryz.prog w = .ok (.bool a.isNone) w := fun w a n c => Lib.run_eql_slice_nil w 130 126 a n c 0 0 Tryz.underlying130
  go_enter Tryz.func88, Tryz.ntmps88
  go_wp2_with ((with_reducible refine gate_builtin (b := .append) (xs := #[.tmp 5, .tmp 6]) rfl ?_); refine wpList_append_own_at _ rfl _ _ 130 rfl w.heap.size 126 i0 (.pointer none) 1 8 Tryz.underlying130 hi hz0 hz1 hz2 rfl (by decide) (.slice (some ⟨w.heap.size, 0, none⟩) 0 0) 0 [] rfl ⟨rfl, .inr ⟨w.heap.size, 0, #[], rfl, Nat.le_refl _, heap_alloc_new _ _, Nat.le_refl _, Nat.zero_le _, rfl, rfl⟩⟩ ad n c xs rfl (by have := HL.out; omega) (HH.out _) H1.out (by omega) (by omega) (by simp) ?_; intro v' w1 hown1 hg1 _ hat1)
  go_ret
  refine ⟨_, rfl, by simpa using hown1, ?_⟩
  exact (below_alloc (Below.refl _ _) _).grown hg1 (by simp) (fun k hk => by cases hk; exact Nat.le_refl _)
theorem clN_calls (w : World) (A : Option Addr) (n c : Nat) (xs : List Value) (hl : xs.length = n) (hA : A = none → n = 0) (hcs : ∀ ad, A = some ad → ∀ j u, xs[j]? = some u → w.cell? (ad.add j) = some u) (h1 : ∀ u ∈ xs, u.oneCell' = true) (hn : n * 8 ≤ 140737488351232) (hn2 : n ≤ maxLen) :
    Calls Tryz.prog 88 #[.slice A n c] w (ClN w n xs) := by
  cases A with
  | none =>
    obtain rfl := hA rfl
    refine (clN_nil w c).mono ?_
    rintro e w' ⟨rfl, rfl⟩
    exact ⟨_, rfl, ⟨by simpa using hl, .inl ⟨rfl, rfl⟩⟩, Below.refl _ _⟩
  | some ad => exact clN_some w ad n c xs hl (hcs ad rfl) h1 hn hn2
end Go.Proofs.YtcmllllbmgcnlaaGreat.Tup
end
section
namespace Go.Proofs.YtcmllllbmgcnlaaGreat.Tup
open Go.RowKit Go.Lib Go.Proofs.YtcmllllbmgcnlaaGreat.G Go.Proofs.YtcmllllbmgcnlaaGreatW.PrintWords Go.Proofs.YtcmllllbmgcnlaaGreatW.PrintLast Go.Proofs.YtcmllllbmgcnlaaGreatW.PrintMore
set_option linter.unusedVariables false
set_option linter.unusedSimpArgs false
theorem clI_info : (Tryz.prog.info? 3).map (fun i => (i.zero, i.size, i.bytes)) = some (some (.int .i64 0), 1, 8) := by kernel_rfl
set_option maxHeartbeats 2000000 in
set_option maxRecDepth 100000 in
theorem clI_nil (w : World) (c : Nat) : Calls Tryz.prog 44 #[.slice none 0 c] w fun e w' => e = .returned (.slice none 0 0) ∧ w = w' := by
  have q22 : ∀ (w : World) (a : Option Addr) (n c : Nat), (binOp .eql 23 (.slice a n c) (.slice none 0 0)).run Tryz.prog w = .ok (.bool a.isNone) w := fun w a n c => Lib.run_eql_slice_nil w 23 3 a n c 0 0 Tryz.underlying23
  go_enter Tryz.func44, Tryz.ntmps44
  go_wp2
  go_ret
  exact ⟨rfl, rfl⟩
def ClI (w : World) (n : Nat) (xs : List Value) (e : Ending) (w' : World) : Prop :=
  ∃ v', e = .returned v' ∧ w'.ownsRow w.heap.size 3 1 v' n xs ∧ Below w.heap.size w w'
set_option maxHeartbeats 2000000 in
set_option maxRecDepth 100000 in
theorem clI_some (w : World) (ad : Addr) (n c : Nat) (xs : List Value) (hl : xs.length = n) (hcs : ∀ j u, xs[j]? = some u → w.cell? (ad.add j) = some u) (h1 : ∀ u ∈ xs, u.oneCell' = true) (hn : n * 8 ≤ 140737488351232) (hn2 : n ≤ maxLen) :
    Calls Tryz.prog 44 #[.slice (some ad) n c] w (ClI w n xs) := by
  obtain ⟨i0, hi, hz0, hz1, hz2⟩ := info_parts clI_info
  have hcs2 : ∀ o : Obj, ∀ j u, xs[j]? = some u → (w.alloc o).cell? (ad.add j) = some u := fun o j u hj => pw_cell_below (below_alloc (Below.refl _ _) o) (hcs j u hj)
  have HH := Aside0.mk hcs2
  have H1 := Aside0.mk h1
  have HL := Aside0.mk hl
  clear hcs hcs2 h1 hl
  have q22 : ∀ (w : World) (a : Option Addr) (n c : Nat), (binOp .eql 23 (.slice a n c) (.slice none 0 0)).run Tryz.prog w = .ok (.bool a.isNone) w := fun w a n c => Lib.run_eql_slice_nil w 23 3 a n c 0 0 Tryz.underlying23
  go_enter Tryz.func44, Tryz.ntmps44
  go_wp2_with ((with_reducible refine gate_builtin (b := .append) (xs := #[.tmp 5, .tmp 6]) rfl ?_); refine wpList_append_own_at _ rfl _ _ 23 rfl w.heap.size 3 i0 (.int .i64 0) 1 8 Tryz.underlying23 hi hz0 hz1 hz2 rfl (by decide) (.slice (some ⟨w.heap.size, 0, none⟩) 0 0) 0 [] rfl ⟨rfl, .inr ⟨w.heap.size, 0, #[], rfl, Nat.le_refl _, heap_alloc_new _ _, Nat.le_refl _, Nat.zero_le _, rfl, rfl⟩⟩ ad n c xs rfl (by have := HL.out; omega) (HH.out _) H1.out (by omega) (by omega) (by simp) ?_; intro v' w1 hown1 hg1 _ hat1)
  go_ret
  refine ⟨_, rfl, by simpa using hown1, ?_⟩
  exact (below_alloc (Below.refl _ _) _).grown hg1 (by simp) (fun k hk => by cases hk; exact Nat.le_refl _)
theorem clI_calls (w : World) (A : Option Addr) (n c : Nat) (xs : List Value) (hl : xs.length = n) (hA : A = none → n = 0) (hcs : ∀ ad, A = some ad → ∀ j u, xs[j]? = some u → w.cell? (ad.add j) = some u) (h1 : ∀ u ∈ xs, u.oneCell' = true) (hn : n * 8 ≤ 140737488351232) (hn2 : n ≤ maxLen) :
    Calls Tryz.prog 44 #[.slice A n c] w (ClI w n xs) := by
  cases A with
  | none =>
    obtain rfl := hA rfl
    refine (clI_nil w c).mono ?_
    rintro e w' ⟨rfl, rfl⟩
    exact ⟨_, rfl, ⟨by simpa using hl, .inl ⟨rfl, rfl⟩⟩, Below.refl _ _⟩
  | some ad => exact clI_some w ad n c xs hl (hcs ad rfl) h1 hn hn2
end Go.Proofs.YtcmllllbmgcnlaaGreat.Tup
end
