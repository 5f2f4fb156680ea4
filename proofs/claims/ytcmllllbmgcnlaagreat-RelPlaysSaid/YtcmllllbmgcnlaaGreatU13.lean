/- Own texts, joined and cut to what the claim stands on: BtPutLaw, BtSplit, BtPutLeaf. -/
import Derived.Test.YtcmllllbmgcnlaaGreatU12
section
namespace Go.Proofs.YtcmllllbmgcnlaaGreat.Tup
open Go.RowKit Go.Lib Go.Proofs.YtcmllllbmgcnlaaGreat.G Go.Proofs.YtcmllllbmgcnlaaGreatW.PrintWords Go.Proofs.YtcmllllbmgcnlaaGreatW.PrintLast Go.Proofs.YtcmllllbmgcnlaaGreatW.PrintMore
set_option linter.unusedVariables false
set_option linter.unusedSimpArgs false
theorem weave_set (ks : List (List Tp)) (ts : List Tp) (i : Nat) (y : List Tp) (h : ks.length = ts.length + 1) (hi : i ≤ ts.length) : weave (ks.set i y) ts = ahead ks ts i ++ (y ++ behind ks ts i) := by
 rw [weave_at (ks.set i y) ts i (by simpa using h) hi]
 have e1 : ahead (ks.set i y) ts i = ahead ks ts i := by
  rw [ahead_take (ks.set i y), ahead_take ks, List.take_set_of_le (Nat.le_refl i)]
 have e2 : (ks.set i y)[i]?.getD [] = y := by simp [show i < ks.length by omega]
 have e3 : behind (ks.set i y) ts i = behind ks ts i := by unfold behind; rw [List.drop_set_of_lt (by omega)]
 rw [e1, e2, e3]
theorem weave_insert (ks : List (List Tp)) (ts : List Tp) (i : Nat) (l r : List Tp) (x : Tp) (h : ks.length = ts.length + 1) (hi : i ≤ ts.length) : weave (insL (ks.set i l) (i + 1) r) (insL ts i x) = ahead ks ts i ++ ((l ++ x :: r) ++ behind ks ts i) := by
 induction i generalizing ks ts with
 | zero => cases ks with
  | nil => simp at h
  | cons k ks =>
   have e := weave_zero r ks ts (by simpa using h)
   cases ts with
   | nil =>
    have : ks = [] := List.length_eq_zero_iff.1 (by simpa using h)
    subst this
    simp [insL, weave, ahead, behind, behind0]
   | cons t ts =>
    simp only [insL, List.set_cons_zero, List.take_succ_cons, List.take_zero, List.drop_succ_cons, List.drop_zero, List.nil_append, List.cons_append, weave, ahead, behind]
    simp only [weave] at e
    rw [e]; simp
 | succ i ih => cases ks with
  | nil => simp at h
  | cons k ks => cases ts with
   | nil => simp at hi
   | cons t ts =>
    have := ih ks ts (by simpa using h) (by simpa using hi)
    simp only [insL, List.set_cons_succ, List.take_succ_cons, List.drop_succ_cons, List.cons_append, weave, ahead] at this ⊢
    rw [this]; simp [behind]
theorem weave_parts (ks : List (List Tp)) (ts : List Tp) (h : Nat) (hl : ks = [] ∨ ks.length = ts.length + 1) (hh : h < ts.length) : weave ks ts = weave (ks.take (h + 1)) (ts.take h) ++ (ts[h]?.getD []) :: weave (ks.drop (h + 1)) (ts.drop (h + 1)) := by
 induction h generalizing ks ts with
 | zero => cases ts with
  | nil => simp at hh
  | cons t ts =>
   rcases hl with rfl | hl
   ·simp [weave]
   ·cases ks with
    | nil => simp at hl
    | cons k ks => simp [weave]
 | succ h ih => cases ts with
  | nil => simp at hh
  | cons t ts =>
   rcases hl with rfl | hl
   ·have := ih [] ts (.inl rfl) (by simpa using hh)
    simp [weave] at this ⊢
    exact this
   ·cases ks with
    | nil => simp at hl
    | cons k ks =>
     have := ih ks ts (.inr (by simpa using hl)) (by simpa using hh)
     simp only [List.take_succ_cons, List.drop_succ_cons, weave, List.getElem?_cons_succ]
     rw [this]; simp
theorem leaf_io (o t : Tp) (ts : List Tp) : (BT.mk (insL ts (idx o ts t) t) []).Ok ∧ (BT.mk (insL ts (idx o ts t) t) []).io = insO o t (BT.mk ts []).io := by
 refine ⟨(BT.ok_mk _ _).2 ⟨.inl rfl, by simp⟩, ?_⟩
 rw [BT.io_mk, BT.io_mk]
 rfl
theorem kid_io {o t : Tp} {ts : List Tp} {kids : List BT} (hok : (BT.mk ts kids).Ok) (hu : Up o (BT.mk ts kids).io) (hf : ∀ a ∈ (BT.mk ts kids).io, Fit o a) (ht : Fit o t) (hn : t ∉ ts) (hi : idx o ts t < kids.length) (K : BT) (hK : K.Ok) (hKi : K.io = insO o t (kids[idx o ts t]).io) :
  (BT.mk ts (kids.set (idx o ts t) K)).Ok ∧ (BT.mk ts (kids.set (idx o ts t) K)).io = insO o t (BT.mk ts kids).io := by
 have hl : kids.length = ts.length + 1 := by
  rcases ((BT.ok_mk ts kids).1 hok).1 with h | h
  ·simp [h] at hi
  ·exact h
 have hks := ((BT.ok_mk ts kids).1 hok).2
 have hii := idx_le o ts t
 constructor
 ·refine (BT.ok_mk _ _).2 ⟨.inr (by simpa using hl), fun k hk => ?_⟩
  rcases List.mem_or_eq_of_mem_set hk with h | h
  ·exact hks k h
  ·subst h; exact hK
 ·rw [BT.io_mk] at hu hf ⊢
  rw [BT.io_mk, List.map_set, weave_set _ ts _ _ (by simpa using hl) hii]
  obtain ⟨hA, hB⟩ := around (by simp [hl]) hu hf ht hn
  rw [weave_at (kids.map BT.io) ts (idx o ts t) (by simp [hl]) hii, insO_append o t _ _ _ hA (fun a ha h => (hB a ha).asymm h), hKi]
  have eg : (kids.map BT.io)[idx o ts t]?.getD [] = (kids[idx o ts t]).io := by
   rw [List.getElem?_map, List.getElem?_eq_getElem hi]; rfl
  rw [eg]
theorem kids_io {o t : Tp} {ts : List Tp} {kids : List BT} (hok : (BT.mk ts kids).Ok) (hu : Up o (BT.mk ts kids).io) (hf : ∀ a ∈ (BT.mk ts kids).io, Fit o a) (ht : Fit o t) (hn : t ∉ ts) (hi : idx o ts t < kids.length) (ts' : List Tp) (kids' : List BT) (hK : (BT.mk ts' kids').Ok) (hKi : (BT.mk ts' kids').io = insO o t (kids[idx o ts t]).io) (h : Nat) (hh : h < ts'.length) :
    let L := BT.mk (ts'.take h) (kids'.take (h + 1))
    let R := BT.mk (ts'.drop (h + 1)) (kids'.drop (h + 1))
    let T := BT.mk (insL ts (idx o ts t) (ts'[h]?.getD [])) (insL (kids.set (idx o ts t) L) (idx o ts t + 1) R)
    T.Ok ∧ T.io = insO o t (BT.mk ts kids).io := by
  intro L R T
  have hl : kids.length = ts.length + 1 := by
    rcases ((BT.ok_mk ts kids).1 hok).1 with h | h
    · simp [h] at hi
    · exact h
  have hks := ((BT.ok_mk ts kids).1 hok).2
  have hks' := ((BT.ok_mk ts' kids').1 hK).2
  have hl' := ((BT.ok_mk ts' kids').1 hK).1
  have hii := idx_le o ts t
  have hL : L.Ok := by
    refine (BT.ok_mk _ _).2 ⟨?_, fun k hk => hks' k (List.mem_of_mem_take hk)⟩
    rcases hl' with e | e
    · left; simp [e]
    · right; simp; omega
  have hR : R.Ok := by
    refine (BT.ok_mk _ _).2 ⟨?_, fun k hk => hks' k (List.mem_of_mem_drop hk)⟩
    rcases hl' with e | e
    · left; simp [e]
    · right; simp; omega
  have hLR : L.io ++ (ts'[h]?.getD []) :: R.io = (BT.mk ts' kids').io := by
    rw [BT.io_mk, BT.io_mk, BT.io_mk, weave_parts (kids'.map BT.io) ts' h (by rcases hl' with e | e
                                                                              · left; simp [e]
                                                                              · right; simpa using e) hh, List.map_take, List.map_drop]
  constructor
  · refine (BT.ok_mk _ _).2 ⟨.inr (by simp [insL]; omega), fun k hk => ?_⟩
    simp only [insL, List.mem_append, List.mem_cons] at hk
    have hset : ∀ k, k ∈ kids.set (idx o ts t) L → k.Ok := fun k hk => by
      rcases List.mem_or_eq_of_mem_set hk with h | h
      · exact hks k h
      · subst h; exact hL
    rcases hk with h | h | h
    · exact hset k (List.mem_of_mem_take h)
    · subst h; exact hR
    · exact hset k (List.mem_of_mem_drop h)
  · rw [BT.io_mk] at hu hf ⊢
    have em : (insL (kids.set (idx o ts t) L) (idx o ts t + 1) R).map BT.io = insL ((kids.map BT.io).set (idx o ts t) L.io) (idx o ts t + 1) R.io := by
      simp [insL, List.map_set]
    rw [BT.io_mk, em, weave_insert _ ts _ _ _ _ (by simpa using hl) hii]
    obtain ⟨hA, hB⟩ := around (by simp [hl]) hu hf ht hn
    rw [weave_at (kids.map BT.io) ts (idx o ts t) (by simp [hl]) hii, insO_append o t _ _ _ hA (fun a ha h => (hB a ha).asymm h), hLR, hKi]
    have eg : (kids.map BT.io)[idx o ts t]?.getD [] = (kids[idx o ts t]).io := by
      rw [List.getElem?_map, List.getElem?_eq_getElem hi]; rfl
    rw [eg]
theorem root_io (ts : List Tp) (kids : List BT) (hK : (BT.mk ts kids).Ok) (h : Nat) (hh : h < ts.length) :
    let T := BT.mk [ts[h]?.getD []] [BT.mk (ts.take h) (kids.take (h + 1)), BT.mk (ts.drop (h + 1)) (kids.drop (h + 1))]
    T.Ok ∧ T.io = (BT.mk ts kids).io := by
  intro T
  have hks := ((BT.ok_mk ts kids).1 hK).2
  have hl := ((BT.ok_mk ts kids).1 hK).1
  constructor
  · refine (BT.ok_mk _ _).2 ⟨.inr rfl, fun k hk => ?_⟩
    simp only [List.mem_cons, List.not_mem_nil, or_false] at hk
    rcases hk with rfl | rfl
    · refine (BT.ok_mk _ _).2 ⟨?_, fun k hk => hks k (List.mem_of_mem_take hk)⟩
      rcases hl with e | e
      · left; simp [e]
      · right; simp; omega
    · refine (BT.ok_mk _ _).2 ⟨?_, fun k hk => hks k (List.mem_of_mem_drop hk)⟩
      rcases hl with e | e
      · left; simp [e]
      · right; simp; omega
  · rw [BT.io_mk, BT.io_mk, weave_parts (kids.map BT.io) ts h (by rcases hl with e | e
                                                                  · left; simp [e]
                                                                  · right; simpa using e) hh]
    simp [weave, BT.io_mk]
theorem cloneTF_calls (W : World) (ok : Nat → Prop) (A : Option Addr) (n c : Nat) (ts : List Tp) (h : Kd.F KT W ok A ts.length ts) (hn : ts.length ≤ 1000000) (e : n = ts.length) :
  Calls Tryz.prog 90 #[.slice A n c] W fun e w' => ∃ A' c', e = .returned (.slice A' n c') ∧ n ≤ c' ∧ Kd.F KT w' (Plus ok W.heap.size) A' n ts ∧ Below W.heap.size W w' := by
 subst e
 refine (cloneT_calls W ok A c ts h hn).mono ?_
 rintro e w' ⟨v, us, rfl, hE, ho, hb⟩
 obtain ⟨A', c', rfl, hle, hF⟩ := rows_in rfl ho (els_step hE fun k _ hk => hb.block k hk) rfl
 exact ⟨A', c', rfl, hle, Kd.F_mono hF (fun k hk => hk.imp id (own_ge ho k)), hb⟩
theorem cloneNF_calls (W : World) (ok : Nat → Prop) (A : Option Addr) (n c : Nat) (ts : List Nat) (h : Kd.F KN W ok A ts.length ts) (hn : ts.length ≤ 1000000) (e : n = ts.length) :
  Calls Tryz.prog 88 #[.slice A n c] W fun e w' => ∃ A' c', e = .returned (.slice A' n c') ∧ n ≤ c' ∧ Kd.F KN w' (Plus ok W.heap.size) A' n ts ∧ Below W.heap.size W w' := by
 subst e
 refine (cloneN_calls W ok A c ts h hn).mono ?_
 rintro e w' ⟨v, us, rfl, hE, ho, hb⟩
 obtain ⟨A', c', rfl, hle, hF⟩ := rows_in rfl ho (els_step hE fun k _ hk => hb.block k hk) rfl
 exact ⟨A', c', rfl, hle, Kd.F_mono hF (fun k hk => hk.imp id (own_ge ho k)), hb⟩
def Split (ok : Nat → Prop) (W : World) (ts : List Tp) (kids : List BT) (h : Nat) (e : Ending) (w' : World) : Prop :=
 ∃ l r Am cm, e = .returned (.tuple #[.pointer (some ⟨l, 0, none⟩), .slice Am (ts[h]?.getD []).length cm, .pointer (some ⟨r, 0, none⟩)]) ∧ Below W.heap.size W w' ∧ (ts[h]?.getD []).length ≤ cm ∧ Kd.F (Kd.int .i64) w' (Plus ok W.heap.size) Am (ts[h]?.getD []).length (ts[h]?.getD []) ∧
  NodeF (Plus ok W.heap.size) w' l (.mk (ts.take h) (kids.take (h + 1))) ∧ NodeF (Plus ok W.heap.size) w' r (.mk (ts.drop (h + 1)) (kids.drop (h + 1)))
theorem node_cells {w : World} {u v : Value} (t : Nat) : (w.alloc (.cells #[u, v] t)).cell? ⟨w.heap.size, 0, none⟩ = some u ∧ (w.alloc (.cells #[u, v] t)).cell? ⟨w.heap.size, 1, none⟩ = some v :=
 ⟨(World.cell?_alloc_at _ _ _ _ rfl).trans rfl, (World.cell?_alloc_at _ _ _ _ rfl).trans rfl⟩
theorem node_new {ok : Nat → Prop} {w X : World} {t : Nat} {A0 A1 : Option Addr} {c0 c1 : Nat} {ts : List Tp} {kids : List BT} {ps : List Nat} {b n m : Nat} (hb : b = w.heap.size) (hB : Below (w.alloc (.cells #[.slice A0 n c0, .slice A1 m c1] t)).heap.size (w.alloc (.cells #[.slice A0 n c0, .slice A1 m c1] t)) X) (hok : ok b)
  (hn : n = ts.length) (hm : m = ps.length) (hc0 : n ≤ c0) (hc1 : m ≤ c1) (hl : ps.length = kids.length) (hT : Kd.F KT w ok A0 n ts) (hN : Kd.F KN w ok A1 m ps) (hk : ∀ (i : Nat) (h : i < kids.length) (h' : i < ps.length), NodeF ok X ps[i] kids[i]) : NodeF ok X b (.mk ts kids) := by
 subst hn hm hb
 have hB2 : Below w.heap.size w X := below_then (below_alloc (Below.refl _ _) _) (below_alloc (Below.refl _ _) _).size hB
 exact .mk _ A0 c0 A1 c1 ts kids ps hok (pw_cell_below hB (node_cells t).1) (pw_cell_below hB (node_cells t).2) hc0 hc1 hl (Kd.F_below hT hB2) (Kd.F_below hN hB2) hk
set_option maxHeartbeats 4000000 in
set_option maxRecDepth 100000 in
theorem split_leaf {ok : Nat → Prop} (W : World) (b : Nat) (A0 : Option Addr) (c0 : Nat) (A1 : Option Addr) (c1 : Nat) (ts : List Tp) (h0 : W.cell? ⟨b, 0, none⟩ = some (.slice A0 ts.length c0)) (h1 : W.cell? ⟨b, 1, none⟩ = some (.slice A1 0 c1)) (hc0 : ts.length ≤ c0)
  (hT : Kd.F KT W ok A0 ts.length ts) (hn : ts.length ≤ 2000) (hp : 2 < ts.length) (h : Nat) (hh : h = ts.length / 2) :
  Calls Tryz.prog 68 #[.pointer (some ⟨b, 0, none⟩)] W (Split ok W ts [] h) := by
 obtain ⟨n, hnn⟩ : ∃ n, n = ts.length := ⟨_, rfl⟩
 rw [← hnn] at h0 hc0 hT hn hp hh
 have hq : (n : Int) / 2 = (h : Int) := by omega
 have b1 : (0 : Int) ≤ (h : Int) := by omega
 have b2 : (h : Int) ≤ (n : Int) := by omega
 have b3 : (h : Int) < (n : Int) := by omega
 have b4 : (h : Int) + 1 ≤ (n : Int) := by omega
 have b5 : (0 : Int) ≤ (h : Int) + 1 := by omega
 have w1 : IntKind.i64.wrap ((h : Int) + 1) = (h : Int) + 1 := by rw [IntKind.wrap_i64]; omega
 have n1 : h ≤ n := by omega
 have n2 : h + 1 ≤ n := by omega
 have n3 : n ≤ 2000 := by omega
 have ht1 : ((h : Int) + 1).toNat = h + 1 := by omega
 have hTl : Kd.F KT W ok A0 (ts.take h).length (ts.take h) := Kd.F_take (hnn ▸ hT) (by omega)
 have hne : ¬ c0 = h + 1 := by omega
 have hTr : Kd.F KT W ok (if c0 = h + 1 then A0 else A0.map (·.add ((h + 1) * KT.sz))) (ts.drop (h + 1)).length (ts.drop (h + 1)) := Kd.F_cut (hnn ▸ hT) (by omega) (by omega)
 have hTr1 : Kd.F KT W ok (A0.map (·.add (h + 1))) (ts.drop (h + 1)).length (ts.drop (h + 1)) := by rw [if_neg hne] at hTr; simpa [Kd.slice] using hTr
 have HTL := Aside0.mk hTl
 have HTR := Aside0.mk hTr1
 have HNN := Aside0.mk hnn
 have HH := Aside0.mk hh
 have HT := Aside0.mk hT
 have H0 := Aside0.mk h0
 have H1 := Aside0.mk h1
 have HN := Aside0.mk hn
 have e1 : Aside0 (h = (ts.take h).length) := ⟨by simp; omega⟩
 have e2 : Aside0 (n - (h + 1) = (ts.drop (h + 1)).length) := ⟨by simp; omega⟩
 obtain ⟨us, hE, hul, hA, hcs⟩ := rows_out rfl hT
 have hET := hE.get h (by omega) (by omega)
 have HES := Aside0.mk hE
 obtain ⟨Am, cm, hum, hcm, hFm⟩ := el_tup hET
 have hA0 : ∃ ad, A0 = some ad := by
  cases A0 with
  | none => have := hA rfl; omega
  | some ad => exact ⟨ad, rfl⟩
 obtain ⟨ad, rfl⟩ := hA0
 have hcell := hcs ad rfl h _ (List.getElem?_eq_getElem (by omega))
 rw [hum] at hcell
 have eg : ts[h]?.getD [] = ts[h] := by simp [show h < ts.length by omega]
 rw [← eg] at hcell hcm hFm
 obtain ⟨m, hm⟩ : ∃ m, m = (ts[h]?.getD []).length := ⟨_, rfl⟩
 rw [← hm] at hcell hcm
 have HM := Aside0.mk hm
 have HC := Aside0.mk hcell
 have HCM := Aside0.mk hcm
 have HFM := Aside0.mk hFm
 clear hT hTl hTr hTr1 hnn hh hn hE hul hA hcs hET hum hcell hcm hFm eg hm
 go_enter Tryz.func68, Tryz.ntmps68
 go_wp2_with (first
  | (go_at_call 90; ((with_reducible refine (cloneTF_calls _ ok (some ad) h _ (ts.take h) HTL.out (by have := HN.out; simp; omega) e1.out).mono ?_)); rintro e w1 ⟨Al, cl, rfl, hcl, hFl, hb1⟩; have HL := Aside0.mk hFl; have HBS1 := Aside0.mk hb1; have hS1 := Since.mk hb1; have HS1 := Aside0.mk (Since.alloc hS1 (.cells #[.slice Al h cl, .slice none 0 0] 132)); have h0b := pw_cell_below HS1.out.b H0.out; clear hFl hb1 hS1)
  | (go_at_call 90; ((with_reducible refine (cloneTF_calls _ ok _ (n - (h + 1)) _ (ts.drop (h + 1)) ?s1 (by have := HN.out; have := HNN.out; simp; omega) e2.out).mono ?_)); (case s1 => exact Kd.F_below HTR.out HS1.out.b); rintro e w3 ⟨Ar, cr, rfl, hcr, hFr, hb3⟩; have HR := Aside0.mk hFr; have HS3 := Aside0.mk (HS1.out.step hb3); have HS4 := Aside0.mk (Since.alloc HS3.out (.cells #[.slice Ar (n - (h + 1)) cr, .slice none 0 0] 132)); have HB3 := Aside0.mk hb3; have h0c := pw_cell_below HS4.out.b H0.out; have h1c := pw_cell_below HS4.out.b H1.out; have h3c := pw_cell_below HS4.out.b HC.out; clear hFr hb3))
 go_quiet (fail)
 go_wp2
 go_ret3
 refine ⟨w1.heap.size, w3.heap.size, Am, cm, by rw [← HM.out]; rfl, ((HS4.out.drewN nq).b), by rw [← HM.out]; exact HCM.out, ?_, ?_, ?_⟩
 ·exact Kd.F_mono (Kd.F_below HFM.out (HS4.out.drewN nq).b) fun k hk => .inl hk
 ·exact node_new rfl (((Since.mk HB3.out).alloc _).drewN nq).b (.inr HBS1.out.size) e1.out rfl hcl (Nat.le_refl _) rfl HL.out (Kd.F_nil KN _ _) (fun i h h' => by simp at h')
 ·refine node_new rfl (pw_below_drewN (Below.refl _ _) nq) (.inr HS3.out.b.size) e2.out rfl hcr (Nat.le_refl _) rfl (Kd.F_mono HR.out fun k hk => hk.imp id fun h => ?_) (Kd.F_nil KN _ _) (fun i h h' => by simp at h')
  exact Nat.le_trans HS1.out.b.size h
theorem NodeF.bound {ok : Nat → Prop} {W : World} {b : Nat} {T : BT} (h : NodeF ok W b T) : NodeF (fun k => ok k ∧ k < W.heap.size) W b T := by
 induction h with
 | mk b A0 c0 A1 c1 ts kids ps hok h0 h1 hc0 hc1 hl hT hN hk ih =>
  exact .mk b A0 c0 A1 c1 ts kids ps ⟨hok, World.block_lt_of_cell? W _ h0⟩ h0 h1 hc0 hc1 hl (Kd.F_bound hT) (Kd.F_bound hN) ih
theorem Since.set {w w1 : World} (h : Since w w1) {l : Nat} (hl : w.heap.size ≤ l) (j : Nat) (v : Value) : Since w (w1.setCell ⟨l, j, none⟩ v) :=
 ⟨below_set h.b hl⟩
theorem blk {w w' : World} (h : Below w.heap.size w w') {k : Nat} {o : Obj} (e : w.heap[k]? = some o) : w'.heap[k]? = some o := (h.block k (Array.getElem?_eq_some_iff.1 e).1).trans e
theorem two_set {w : World} {l r t : Nat} {a0 a1 b0 b1 u v : Value} (hlr : l ≠ r) (hl : w.heap[l]? = some (.cells #[a0, a1] t (0, 0))) (hr : w.heap[r]? = some (.cells #[b0, b1] t (0, 0))) :
  let Y := (w.setCell ⟨l, 1, none⟩ u).setCell ⟨r, 1, none⟩ v
  Y.cell? ⟨l, 0, none⟩ = some a0 ∧ Y.cell? ⟨l, 1, none⟩ = some u ∧ Y.cell? ⟨r, 0, none⟩ = some b0 ∧ Y.cell? ⟨r, 1, none⟩ = some v ∧ ∀ k, k ≠ l → k ≠ r → Y.heap[k]? = w.heap[k]? := by
 intro Y
 have l0 : w.cell? ⟨l, 0, none⟩ = some a0 := (cell_of_heap hl 0).trans rfl
 have l1 : w.cell? ⟨l, 1, none⟩ = some a1 := (cell_of_heap hl 1).trans rfl
 have r0 : w.cell? ⟨r, 0, none⟩ = some b0 := (cell_of_heap hr 0).trans rfl
 have r1 : w.cell? ⟨r, 1, none⟩ = some b1 := (cell_of_heap hr 1).trans rfl
 refine ⟨?_, ?_, ?_, ?_, fun k h1 h2 => ?_⟩
 ·rw [World.cell?_setCell_far _ _ _ _ (fun e => hlr e.symm), World.cell?_setCell_other _ _ _ _ (fun e => by injection e with _ e; cases e)]; exact l0
 ·rw [World.cell?_setCell_far _ _ _ _ (fun e => hlr e.symm)]; exact World.cell?_setCell_same' _ _ _ (by rw [l1]; rfl)
 ·rw [World.cell?_setCell_other _ _ _ _ (fun e => by injection e with _ e; cases e), World.cell?_setCell_far _ _ _ _ hlr]; exact r0
 ·exact World.cell?_setCell_same' _ _ _ (by rw [World.cell?_setCell_far _ _ _ _ hlr, r1]; rfl)
 ·exact (Below.heap_setCell _ _ _ _ h2).trans (Below.heap_setCell _ _ _ _ h1)
set_option maxHeartbeats 4000000 in
set_option maxRecDepth 100000 in
theorem split_inner {ok : Nat → Prop} (W : World) (b : Nat) (A0 : Option Addr) (c0 : Nat) (A1 : Option Addr) (c1 m : Nat) (ts : List Tp) (kids : List BT) (ps : List Nat) (h0 : W.cell? ⟨b, 0, none⟩ = some (.slice A0 ts.length c0)) (h1 : W.cell? ⟨b, 1, none⟩ = some (.slice A1 m c1)) (hc0 : ts.length ≤ c0) (hc1 : m ≤ c1)
  (hT : Kd.F KT W ok A0 ts.length ts) (hN : Kd.F KN W ok A1 m ps) (hm : m = ts.length + 1) (hmp : m = ps.length) (hl : ps.length = kids.length) (hk : ∀ (i : Nat) (h : i < kids.length) (h' : i < ps.length), NodeF ok W ps[i] kids[i]) (hn : ts.length ≤ 2000) (hp : 2 < ts.length) (h : Nat) (hh : h = ts.length / 2) :
  Calls Tryz.prog 68 #[.pointer (some ⟨b, 0, none⟩)] W (Split ok W ts kids h) := by
 obtain ⟨n, hnn⟩ : ∃ n, n = ts.length := ⟨_, rfl⟩
 rw [← hnn] at h0 hc0 hT hn hp hh hm
 have hq : (n : Int) / 2 = (h : Int) := by omega
 have b1 : (0 : Int) ≤ (h : Int) := by omega
 have b2 : (h : Int) ≤ (n : Int) := by omega
 have b3 : (h : Int) < (n : Int) := by omega
 have b4 : (h : Int) + 1 ≤ (n : Int) := by omega
 have b5 : (0 : Int) ≤ (h : Int) + 1 := by omega
 have b6 : (h : Int) + 1 ≤ (m : Int) := by omega
 have b7 : (m : Int) > 0 := by omega
 have b8 : (h : Int) + 1 ≤ (c1 : Int) := by omega
 have w1 : IntKind.i64.wrap ((h : Int) + 1) = (h : Int) + 1 := by rw [IntKind.wrap_i64]; omega
 have n1 : h ≤ n := by omega
 have n2 : h + 1 ≤ n := by omega
 have n4 : h + 1 ≤ m := by omega
 have n3 : n ≤ 2000 := by omega
 have ht1 : ((h : Int) + 1).toNat = h + 1 := by omega
 have hne : ¬ c0 = h + 1 := by omega
 have hne1 : ¬ c1 = h + 1 := by omega
 obtain ⟨ok', hok'⟩ : ∃ ok', ok' = fun k => ok k ∧ k < W.heap.size := ⟨_, rfl⟩
 have hT0 := Kd.F_bound hT
 have hN0 := Kd.F_bound hN
 have hK0 := fun i h h' => (hk i h h').bound
 rw [← hok'] at hT0 hN0
 simp only [← hok'] at hK0
 have hTl : Kd.F KT W ok' A0 (ts.take h).length (ts.take h) := Kd.F_take (hnn ▸ hT0) (by omega)
 have hTr : Kd.F KT W ok' (if c0 = h + 1 then A0 else A0.map (·.add ((h + 1) * KT.sz))) (ts.drop (h + 1)).length (ts.drop (h + 1)) := Kd.F_cut (hnn ▸ hT0) (by omega) (by omega)
 have hTr1 : Kd.F KT W ok' (A0.map (·.add (h + 1))) (ts.drop (h + 1)).length (ts.drop (h + 1)) := by rw [if_neg hne] at hTr; simpa [Kd.slice] using hTr
 have hNl : Kd.F KN W ok' A1 (ps.take (h + 1)).length (ps.take (h + 1)) := Kd.F_take (hmp ▸ hN0) (by omega)
 have hNr : Kd.F KN W ok' (if c1 = h + 1 then A1 else A1.map (·.add ((h + 1) * KN.sz))) (ps.drop (h + 1)).length (ps.drop (h + 1)) := Kd.F_cut (hmp ▸ hN0) (by omega) (by omega)
 have hNr1 : Kd.F KN W ok' (A1.map (·.add (h + 1))) (ps.drop (h + 1)).length (ps.drop (h + 1)) := by rw [if_neg hne1] at hNr; simpa [KN, Kd.scalar] using hNr
 have e1 : Aside0 (h = (ts.take h).length) := ⟨by simp; omega⟩
 have e2 : Aside0 (n - (h + 1) = (ts.drop (h + 1)).length) := ⟨by simp; omega⟩
 have e3 : Aside0 (h + 1 = (ps.take (h + 1)).length) := ⟨by simp; omega⟩
 have e4 : Aside0 (m - (h + 1) = (ps.drop (h + 1)).length) := ⟨by simp; omega⟩
 have z1 : Aside0 ((ts.take h).length ≤ 1000000) := ⟨by simp; omega⟩
 have z2 : Aside0 ((ts.drop (h + 1)).length ≤ 1000000) := ⟨by simp; omega⟩
 have z3 : Aside0 ((ps.take (h + 1)).length ≤ 1000000) := ⟨by simp; omega⟩
 have z4 : Aside0 ((ps.drop (h + 1)).length ≤ 1000000) := ⟨by simp; omega⟩
 obtain ⟨us, hE, hul, hA, hcs⟩ := rows_out rfl hT0
 have hET := hE.get h (by omega) (by omega)
 obtain ⟨Am, cm, hum, hcm, hFm⟩ := el_tup hET
 have hA0 : ∃ ad, A0 = some ad := by
  cases A0 with
  | none => have := hA rfl; omega
  | some ad => exact ⟨ad, rfl⟩
 obtain ⟨ad, rfl⟩ := hA0
 have hA1 : ∃ ad, A1 = some ad := by
  cases A1 with
  | none =>
   obtain ⟨ad, e, _⟩ := (Kd.F_now hN).2.2 (by omega)
   cases e
  | some ad => exact ⟨ad, rfl⟩
 obtain ⟨ad1, rfl⟩ := hA1
 have hcell := hcs ad rfl h _ (List.getElem?_eq_getElem (by omega))
 rw [hum] at hcell
 have eg : ts[h]?.getD [] = ts[h] := by simp [show h < ts.length by omega]
 rw [← eg] at hcell hcm hFm
 obtain ⟨q, hqq⟩ : ∃ q, q = (ts[h]?.getD []).length := ⟨_, rfl⟩
 rw [← hqq] at hcell hcm
 have HM := Aside0.mk hqq
 have HC := Aside0.mk hcell
 have HCM := Aside0.mk hcm
 have HFM := Aside0.mk hFm
 have HTL := Aside0.mk hTl
 have HTR := Aside0.mk hTr1
 have HNL := Aside0.mk hNl
 have HNR := Aside0.mk hNr1
 have HNN := Aside0.mk hnn
 have HH := Aside0.mk hh
 have H0 := Aside0.mk h0
 have H1 := Aside0.mk h1
 have HN := Aside0.mk hn
 have HK := Aside0.mk hK0
 have HOK := Aside0.mk hok'
 have HML := Aside0.mk (And.intro hm (And.intro hmp hl))
 clear hT hTl hTr hTr1 hnn hh hn hE hul hA hcs hET hum hcell hcm hFm eg hqq hNl hNr hNr1 hT0 hN0 hK0 hk hok' hN hm hmp hl
 go_enter Tryz.func68, Tryz.ntmps68
 go_wp2_with (first
  | (go_at_call 90; ((with_reducible refine (cloneTF_calls _ ok' (some ad) h _ (ts.take h) HTL.out z1.out e1.out).mono ?_)); rintro e w1 ⟨Al, cl, rfl, hcl, hFl, hb1⟩; have HL := Aside0.mk hFl; have HBS1 := Aside0.mk hb1; have hS1 := Since.mk hb1; have HS1 := Aside0.mk (Since.alloc hS1 (.cells #[.slice Al h cl, .slice none 0 0] 132)); have h0b := pw_cell_below HS1.out.b H0.out; clear hFl hb1 hS1)
  | (go_at_call 90; ((with_reducible refine (cloneTF_calls _ ok' _ (n - (h + 1)) _ (ts.drop (h + 1)) ?s1 z2.out e2.out).mono ?_)); (case s1 => exact Kd.F_below HTR.out HS1.out.b); rintro e w3 ⟨Ar, cr, rfl, hcr, hFr, hb3⟩; have HR := Aside0.mk hFr; have HS3 := Aside0.mk (HS1.out.step hb3); have HS4 := Aside0.mk (Since.alloc HS3.out (.cells #[.slice Ar (n - (h + 1)) cr, .slice none 0 0] 132)); have HB3 := Aside0.mk hb3; have h0c := pw_cell_below HS4.out.b H0.out; have h1c := pw_cell_below HS4.out.b H1.out; have h3c := pw_cell_below HS4.out.b HC.out; clear hFr hb3))
 obtain ⟨l, hl⟩ : ∃ l, l = w1.heap.size := ⟨_, rfl⟩
 obtain ⟨r, hr⟩ : ∃ r, r = w3.heap.size := ⟨_, rfl⟩
 obtain ⟨X, hX⟩ : ∃ X, X = w3.alloc (.cells #[.slice Ar (n - (h + 1)) cr, .slice none 0 0] 132) := ⟨_, rfl⟩
 have HXR := Aside0.mk (show X.heap[r]? = some (.cells #[.slice Ar (n - (h + 1)) cr, .slice none 0 0] 132 (0, 0)) by rw [hX, hr]; exact heap_alloc_new _ _)
 have HXL := Aside0.mk (show X.heap[l]? = some (.cells #[.slice Al h cl, .slice none 0 0] 132 (0, 0)) by rw [hX, hl]; exact blk (below_alloc (Below.refl _ _) _) (blk HB3.out (heap_alloc_new _ _)))
 have HX3 := Aside0.mk (show Below w3.heap.size w3 X by rw [hX]; exact below_alloc (Below.refl _ _) _)
 have hlr : l < r := by rw [hl, hr]; exact Nat.lt_of_lt_of_le (Array.getElem?_eq_some_iff.1 (heap_alloc_new w1 _)).1 HB3.out.size
 have HLW := Aside0.mk (show W.heap.size ≤ l by rw [hl]; exact HBS1.out.size)
 have HRW := Aside0.mk (show W.heap.size ≤ r from Nat.le_trans HLW.out (Nat.le_of_lt hlr))
 have hlr1 : ¬ l = r := by omega
 have hlr2 : ¬ r = l := by omega
 rw [← hX] at HS4
 have HKP := Aside0.mk (show ∀ w', Since W w' → w'.cell? ⟨b, 1, none⟩ = some (.slice (some ad1) m c1) ∧ Since W w' from fun w' hs => ⟨pw_cell_below hs.b H1.out, hs⟩)
 have hSX := HS4.out.drew
 rw [← hX] at h0c h1c h3c
 rw [← hX, ← hl, ← hr]
 have HL1 := Aside0.mk hl
 have HR1 := Aside0.mk hr
 have HLR := Aside0.mk hlr
 clear hX hl hr hlr h0c h1c h3c h0b h0 h1
 go_region_held3 (fun w' => w'.cell? ⟨b, 1, none⟩ = some (.slice (some ad1) m c1) ∧ Since W w')
  (first | exact HKP.out _ hSX | (go_split_ands; first | exact HKP.out _ (Since.step (by assumption) (by assumption)) | exact HKP.out _ (Since.set (by assumption) HLW.out _ _) | exact HKP.out _ (Since.set (by assumption) HRW.out _ _)))
  (first
  | (go_at_call 88; ((with_reducible refine (cloneNF_calls _ ok' _ (h + 1) _ (ps.take (h + 1)) ?s1 z3.out e3.out).mono ?_)); (case s1 => (go_split_ands; exact Kd.F_below HNL.out (Since.b (by assumption)))); rintro e w5 ⟨Akl, ckl, rfl, hckl, hFkl, hb5⟩)
  | (go_at_call 88; ((with_reducible refine (cloneNF_calls _ ok' _ (m - (h + 1)) _ (ps.drop (h + 1)) ?s1 z4.out e4.out).mono ?_)); (case s1 => (go_split_ands; exact Kd.F_below HNR.out (Since.b (by assumption)))); rintro e w6 ⟨Akr, ckr, rfl, hckr, hFkr, hb6⟩; have hl6 := cell_of_heap (blk hb6 (blk hb5 HXL.out)) 1; have hr6 := cell_of_heap (blk hb6 (blk hb5 HXR.out)) 1; have fl6 := free_of_heap (blk hb6 (blk hb5 HXL.out)) 1; have fr6 := free_of_heap (blk hb6 (blk hb5 HXR.out)) 1))
 all_goals (
  obtain ⟨Y, hY⟩ : ∃ Y, Y = (w6.setCell ⟨l, 1, none⟩ (.slice Akl (h + 1) ckl)).setCell ⟨r, 1, none⟩ (.slice Akr (m - (h + 1)) ckr) := ⟨_, rfl⟩
  have HY := Aside0.mk (two_set (u := .slice Akl (h + 1) ckl) (v := .slice Akr (m - (h + 1)) ckr) hlr1 (blk hb6 (blk hb5 HXL.out)) (blk hb6 (blk hb5 HXR.out)))
  rw [← hY] at HY
  rw [← hY]
  have HSY := Aside0.mk (show Since W Y by rw [hY]; exact ((((HS4.out.drew).step hb5).step hb6).set HLW.out _ _).set HRW.out _ _)
  have HB5 := Aside0.mk hb5
  have HB6 := Aside0.mk hb6
  have HKL := Aside0.mk hFkl
  have HKR := Aside0.mk hFkr
  have h0y := pw_cell_below HSY.out.b H0.out
  have h3y := pw_cell_below HSY.out.b HC.out
  clear hY hb5 hb6 hFkl hFkr hl6 hr6 fl6 fr6
  go_wp2
  go_quiet (fail)
  go_wp2
  go_ret3
  have hq := HM.out
  refine ⟨l, r, Am, cm, by rw [← hq]; rfl, (HSY.out.drewN nq).b, by rw [← hq]; exact HCM.out, ?_, ?_, ?_⟩
  ·exact Kd.F_mono (Kd.F_below HFM.out (HSY.out.drewN nq).b) fun k hk => .inl (by have := hk; rw [HOK.out] at this; exact this.1)
  ·obtain ⟨y0, y1, y2, y3, yk⟩ := HY.out
   have hm1 := HML.out
   refine NodeF.under ?_ (pw_below_drewN (Below.refl _ _) nq)
   refine .mk l Al cl Akl ckl (ts.take h) (kids.take (h + 1)) (ps.take (h + 1)) (.inr HLW.out) (e1.out ▸ y0) (e3.out ▸ y1) (e1.out ▸ hcl) (e3.out ▸ hckl) (by simp; omega) ?_ ?_ ?_
   ·refine e1.out ▸ Kd.F_mono (Kd.F_step HL.out fun k hk hlt => ?_) (fun k hk => hk.imp (fun hk => by have := hk; rw [HOK.out] at this; exact this.1) id)
    have hl1 := HL1.out
    have hlr3 := HLR.out
    have a1 := (below_alloc (w := w1) (Below.refl _ w1) (.cells #[.slice Al h cl, .slice none 0 0] 132))
    have s1 := a1.size
    have s3 := HB3.out.size
    have s4 := HX3.out.size
    have s5 := HB5.out.size
    have xd : X.drew.heap.size = X.heap.size := rfl
    rw [yk k (by omega) (by omega), HB6.out.block k (by omega), HB5.out.block k (by omega)]
    show X.heap[k]? = _
    rw [HX3.out.block k (by omega), HB3.out.block k (by omega), a1.block k hlt]
   ·refine e3.out ▸ Kd.F_mono (Kd.F_step HKL.out fun k hk hlt => ?_) (fun k hk => hk.imp (fun hk => by have := hk; rw [HOK.out] at this; exact this.1) (fun hk => Nat.le_trans HS4.out.b.size hk))
    have xl := (Array.getElem?_eq_some_iff.1 HXL.out).1
    have xr := (Array.getElem?_eq_some_iff.1 HXR.out).1
    have hlw := HLW.out
    have hrw := HRW.out
    have hne : k ≠ l ∧ k ≠ r := by
     rcases hk with hk | hk
     ·rw [HOK.out] at hk
      have := hk.2
      omega
     ·have : X.heap.size ≤ k := hk
      omega
    rw [yk k hne.1 hne.2, HB6.out.block k hlt]
   ·intro i hi hi'
    rw [List.getElem_take, List.getElem_take]
    exact ((HK.out i (by simp at hi; omega) (by simp at hi'; omega)).under HSY.out.b).mono fun k hk => .inl (by have := hk; rw [HOK.out] at this; exact this.1)
  ·obtain ⟨y0, y1, y2, y3, yk⟩ := HY.out
   have hm1 := HML.out
   refine NodeF.under ?_ (pw_below_drewN (Below.refl _ _) nq)
   refine .mk r Ar cr Akr ckr (ts.drop (h + 1)) (kids.drop (h + 1)) (ps.drop (h + 1)) (.inr HRW.out) (e2.out ▸ y2) (e4.out ▸ y3) (e2.out ▸ hcr) (e4.out ▸ hckr) (by simp; omega) ?_ ?_ ?_
   ·refine e2.out ▸ Kd.F_mono (Kd.F_step HR.out fun k hk hlt => ?_) (fun k hk => hk.imp (fun hk => by have := hk; rw [HOK.out] at this; exact this.1) (fun hk => Nat.le_trans HS1.out.b.size hk))
    have hl1 := HL1.out
    have hr1 := HR1.out
    have hlw := HLW.out
    have a1 := (Array.getElem?_eq_some_iff.1 (heap_alloc_new w1 (.cells #[.slice Al h cl, .slice none 0 0] 132))).1
    have s4 := HX3.out.size
    have s5 := HB5.out.size
    have s5' : X.heap.size ≤ w5.heap.size := s5
    have hne : k ≠ l ∧ k ≠ r := by
     rcases hk with hk | hk
     ·rw [HOK.out] at hk
      have := hk.2
      omega
     ·omega
    rw [yk k hne.1 hne.2, HB6.out.block k (by omega), HB5.out.block k (show k < X.heap.size by omega)]
    show X.heap[k]? = _
    rw [HX3.out.block k (by omega)]
   ·refine e4.out ▸ Kd.F_mono (Kd.F_step HKR.out fun k hk hlt => ?_) (fun k hk => hk.imp (fun hk => by have := hk; rw [HOK.out] at this; exact this.1) (fun hk => Nat.le_trans HS4.out.b.size (Nat.le_trans (show X.heap.size ≤ w5.heap.size from HB5.out.size) hk)))
    have xl := (Array.getElem?_eq_some_iff.1 HXL.out).1
    have xr := (Array.getElem?_eq_some_iff.1 HXR.out).1
    have hlw := HLW.out
    have hrw := HRW.out
    have s5 : X.heap.size ≤ w5.heap.size := HB5.out.size
    have hne : k ≠ l ∧ k ≠ r := by
     rcases hk with hk | hk
     ·rw [HOK.out] at hk
      have := hk.2
      omega
     ·omega
    rw [yk k hne.1 hne.2]
   ·intro i hi hi'
    rw [List.getElem_drop, List.getElem_drop]
    exact ((HK.out _ (by simp at hi; omega) (by simp at hi'; omega)).under HSY.out.b).mono fun k hk => .inl (by have := hk; rw [HOK.out] at this; exact this.1))
theorem split_calls {ok : Nat → Prop} (W : World) (b : Nat) (ts : List Tp) (kids : List BT) (hN : NodeF ok W b (.mk ts kids)) (hok : (BT.mk ts kids).Ok) (hn : ts.length ≤ 2000) (hp : 2 < ts.length) (h : Nat) (hh : h = ts.length / 2) :
  Calls Tryz.prog 68 #[.pointer (some ⟨b, 0, none⟩)] W (Split ok W ts kids h) := by
 cases hN with
 | mk b A0 c0 A1 c1 ts kids ps hokb h0 h1 hc0 hc1 hl hT hNd hk =>
  by_cases hkid : kids = []
  ·subst hkid
   have hp0 : ps.length = 0 := hl
   rw [hp0] at h1
   exact split_leaf W b A0 c0 A1 c1 ts h0 h1 hc0 hT hn hp h hh
  ·have hlen : kids.length = ts.length + 1 := by
    rcases ((BT.ok_mk ts kids).1 hok).1 with e | e
    ·exact absurd e hkid
    ·exact e
   exact split_inner W b A0 c0 A1 c1 ps.length ts kids ps h0 h1 hc0 hc1 hT hNd (by omega) rfl hl hk hn hp h hh
theorem own_slice {W : World} {base e s : Nat} {v : Value} {n : Nat} {xs : List Value} (h : W.ownsRow base e s v n xs) : ∃ A c, v = .slice A n c := by
 rcases h.2 with ⟨rfl, rfl⟩ | ⟨g, cap, cur, rfl, _⟩
 ·exact ⟨_, _, rfl⟩
 ·exact ⟨_, _, rfl⟩
theorem cloneTR_calls (W : World) (ok : Nat → Prop) (A : Option Addr) (n c : Nat) (ts : List Tp) (h : Kd.F KT W ok A ts.length ts) (hn : ts.length ≤ 1000000) (e : n = ts.length) :
  Calls Tryz.prog 90 #[.slice A n c] W fun e w' => ∃ A' c' us, e = .returned (.slice A' n c') ∧ Els (El KT W ok) ts us ∧ w'.ownsRow W.heap.size 23 1 (.slice A' n c') n us ∧ Below W.heap.size W w' := by
 subst e
 refine (cloneT_calls W ok A c ts h hn).mono ?_
 rintro e w' ⟨v, us, rfl, hE, ho, hb⟩
 obtain ⟨A', c', rfl⟩ := own_slice ho
 exact ⟨A', c', us, rfl, hE, ho, hb⟩
theorem cloneNR_calls (W : World) (ok : Nat → Prop) (A : Option Addr) (n c : Nat) (ts : List Nat) (h : Kd.F KN W ok A ts.length ts) (hn : ts.length ≤ 1000000) (e : n = ts.length) :
  Calls Tryz.prog 88 #[.slice A n c] W fun e w' => ∃ A' c' us, e = .returned (.slice A' n c') ∧ Els (El KN W ok) ts us ∧ w'.ownsRow W.heap.size 126 1 (.slice A' n c') n us ∧ Below W.heap.size W w' := by
 subst e
 refine (cloneN_calls W ok A c ts h hn).mono ?_
 rintro e w' ⟨v, us, rfl, hE, ho, hb⟩
 obtain ⟨A', c', rfl⟩ := own_slice ho
 exact ⟨A', c', us, rfl, hE, ho, hb⟩
theorem insTF_calls (W : World) (ok : Nat → Prop) (base : Nat) (v : Value) (n : Nat) (ts : List Tp) (us : List Value) (ho : W.ownsRow base 23 1 v n us) (hn : n = ts.length) (hE : Els (El KT W ok) ts us) (hd : ∀ k, ok k → some k ≠ v.ownBlock) (i : Nat) (hi : i ≤ n) (t : Tp) (x : Value) (hx : El KT W ok t x) (vb : Nat) (hvb : W.heap[vb]? = some (.cells #[x] 23 (0, 0)))
  (hbase : base ≤ W.heap.size) (hn2 : n ≤ 1000000) (hne : v.ownBlock ≠ some vb) :
  Calls Tryz.prog 89 #[v, .int .i64 i, .slice (some ⟨vb, 0, none⟩) 1 1] W fun e w' => ∃ A c, e = .returned (.slice A (n + 1) c) ∧ n + 1 ≤ c ∧ Kd.F KT w' (Plus ok base) A (n + 1) (insL ts i t) ∧ W.grownBy w' v.ownBlock := by
 refine (insT_calls W base v n us ho (els_one hE) i hi x hx.one vb hvb hbase hn2 hne).mono ?_
 rintro e w' ⟨v', rfl, ho', hg, _⟩
 have hl : n + 1 = (insL ts i t).length := by subst hn; simp [insL]; omega
 obtain ⟨A, c, rfl, hle, hF⟩ := rows_in rfl ho' ((els_step (W1 := w') hE fun k hk hlt => hg.block k hlt (hd k hk)).ins i (hx.step fun k hk hlt => hg.block k hlt (hd k hk))) hl
 have og := own_ge ho'
 rw [← hl] at hle hF og ⊢
 exact ⟨A, c, rfl, hle, Kd.F_mono hF (fun k hk => hk.imp id (og k)), hg⟩
theorem insNF_calls (W : World) (ok : Nat → Prop) (base : Nat) (v : Value) (n : Nat) (ts : List Nat) (us : List Value) (ho : W.ownsRow base 126 1 v n us) (hn : n = ts.length) (hE : Els (El KN W ok) ts us) (hd : ∀ k, ok k → some k ≠ v.ownBlock) (i : Nat) (hi : i ≤ n) (t : Nat) (x : Value) (hx : El KN W ok t x) (vb : Nat) (hvb : W.heap[vb]? = some (.cells #[x] 126 (0, 0)))
  (hbase : base ≤ W.heap.size) (hn2 : n ≤ 1000000) (hne : v.ownBlock ≠ some vb) :
  Calls Tryz.prog 91 #[v, .int .i64 i, .slice (some ⟨vb, 0, none⟩) 1 1] W fun e w' => ∃ A c, e = .returned (.slice A (n + 1) c) ∧ n + 1 ≤ c ∧ Kd.F KN w' (fun k => ok k ∨ (some k = v.ownBlock ∨ W.heap.size ≤ k)) A (n + 1) (insL ts i t) ∧ W.grownBy w' v.ownBlock := by
 refine (insN_calls W base v n us ho (els_one hE) i hi x hx.one vb hvb hbase hn2 hne).mono ?_
 rintro e w' ⟨v', rfl, ho', hg, hwh⟩
 have hl : n + 1 = (insL ts i t).length := by subst hn; simp [insL]; omega
 obtain ⟨A, c, rfl, hle, hF⟩ := rows_in rfl ho' ((els_step (W1 := w') hE fun k hk hlt => hg.block k hlt (hd k hk)).ins i (hx.step fun k hk hlt => hg.block k hlt (hd k hk))) hl
 have og : ∀ k, some k = (Value.slice A (insL ts i t).length c).ownBlock → some k = v.ownBlock ∨ W.heap.size ≤ k := fun k hk => by
  rcases hwh with h | ⟨g, h, hle⟩
  ·exact .inl (hk.trans h)
  ·right
   rw [h] at hk
   injection hk with hk
   omega
 rw [← hl] at hle hF og ⊢
 exact ⟨A, c, rfl, hle, Kd.F_mono hF (fun k hk => hk.imp id (og k)), hg⟩
theorem insT_after (X w3 : World) (ok : Nat → Prop) (A3 : Option Addr) (n c3 : Nat) (ts : List Tp) (us : List Value) (hE : Els (El KT X ok) ts us) (ho : w3.ownsRow X.heap.size 23 1 (.slice A3 n c3) n us) (hb3 : Below X.heap.size X w3) (hok : ∀ k, ok k → k < X.heap.size) (hn : n = ts.length) (hn2 : n ≤ 1000000) (i : Nat) (hi : i ≤ n) (t : Tp) (At : Option Addr) (ct : Nat) (ht : El KT X ok t (.slice At t.length ct)) :
  Calls Tryz.prog 89 #[.slice A3 n c3, .int .i64 i, .slice (some ⟨w3.heap.size, 0, none⟩) 1 1] (w3.alloc (.cells #[.slice At t.length ct] 23)) fun e w' => ∃ A c, e = .returned (.slice A (n + 1) c) ∧ n + 1 ≤ c ∧ Kd.F KT w' (Plus ok X.heap.size) A (n + 1) (insL ts i t) ∧ Below X.heap.size X w' := by
 have ha : Below X.heap.size X (w3.alloc (.cells #[.slice At t.length ct] 23)) := below_alloc hb3 _
 have og := own_ge ho
 have ol := own_lt ho
 refine (insTF_calls _ ok X.heap.size (.slice A3 n c3) n ts us (own_move ho fun k hk => ?_) hn (els_step hE fun k _ hk => ha.block k hk) (fun k hk e => ?_) i hi t (.slice At t.length ct) (ht.step fun k _ hk => ha.block k hk) w3.heap.size (heap_alloc_new _ _) (Nat.le_trans hb3.size (below_alloc (Below.refl _ _) _).size) hn2 (fun e => ?_)).mono ?_
 ·exact (below_alloc (Below.refl w3.heap.size w3) _).block k (ol k hk.symm)
 ·have := og k e
  have := hok k hk
  omega
 ·have := ol _ e.symm
  omega
 ·rintro e w' ⟨A, c, rfl, hc, hF, hg⟩
  exact ⟨A, c, rfl, hc, hF, ha.grown hg ha.size (fun k hk => og k hk.symm)⟩
def PutR (ok : Nat → Prop) (W : World) (o t : Tp) (T : BT) (e : Ending) (w' : World) : Prop :=
 ∃ b' T', e = .returned (.pointer (some ⟨b', 0, none⟩)) ∧ Below W.heap.size W w' ∧ NodeF (Plus ok W.heap.size) w' b' T' ∧ T'.Ok ∧ T'.io = insO o t T.io
set_option maxHeartbeats 4000000 in
set_option maxRecDepth 100000 in
theorem put_leaf {ok : Nat → Prop} (W : World) (bs : Nat) (Ao : Option Addr) (co : Nat) (o : Tp) (hs : W.cell? ⟨bs, 1, none⟩ = some (.slice Ao o.length co)) (so : Sl W Ao co o) (b : Nat) (A0 : Option Addr) (c0 : Nat) (A1 : Option Addr) (c1 : Nat) (ts : List Tp) (h0 : W.cell? ⟨b, 0, none⟩ = some (.slice A0 ts.length c0)) (h1 : W.cell? ⟨b, 1, none⟩ = some (.slice A1 0 c1)) (hc0 : ts.length ≤ c0)
  (hT : Kd.F KT W ok A0 ts.length ts) (hN : Kd.F KN W ok A1 0 []) (hn : ts.length ≤ 2000) (hfit : ∀ a ∈ ts, Fit o a) (hup : Up o ts) (At : Option Addr) (ct : Nat) (t : Tp) (st : Kd.F (Kd.int .i64) W ok At t.length t) (hct : t.length ≤ ct) (hft : Fit o t) (hnt : t ∉ ts) :
  Calls Tryz.prog 67 #[.pointer (some ⟨bs, 0, none⟩), .pointer (some ⟨b, 0, none⟩), .slice At t.length ct] W (PutR ok W o t (.mk ts [])) := by
 obtain ⟨n, hnn⟩ : ∃ n, n = ts.length := ⟨_, rfl⟩
 obtain ⟨i, hi⟩ : ∃ i, i = idx o ts t := ⟨_, rfl⟩
 obtain ⟨ok', hok'⟩ : ∃ ok', ok' = fun k => ok k ∧ k < W.heap.size := ⟨_, rfl⟩
 have stl : Sl W At ct t := ⟨Kd.F_now st, hct⟩
 have hT0 := Kd.F_bound hT
 have hN0 := Kd.F_bound hN
 have st0 := Kd.F_bound st
 rw [← hok'] at hT0 hN0 st0
 have hdec := decide_eq_false hnt
 have hin : i ≤ n := by rw [hi, hnn]; exact idx_le o ts t
 have FC := Aside0.mk (find_calls W bs Ao co o hs so b A0 c0 ts h0 (Kd.F_now hT) (by omega) hc0 hfit hup At ct t stl hft)
 rw [hdec, ← hi] at FC
 rw [← hnn] at h0 hT0 hc0 hn
 have HN0 := Aside0.mk hN0
 have HT0 := Aside0.mk hT0
 have HST := Aside0.mk (tup_el hct st0)
 have HI := Aside0.mk hi
 have HNN := Aside0.mk hnn
 have HOK := Aside0.mk hok'
 have HKP := Aside0.mk (show ∀ w', Since W w' → (w'.cell? ⟨b, 0, none⟩ = some (.slice A0 n c0) ∧ w'.cell? ⟨b, 1, none⟩ = some (.slice A1 0 c1)) ∧ Since W w' from fun w' hs => ⟨⟨pw_cell_below hs.b h0, pw_cell_below hs.b h1⟩, hs⟩)
 have z0 : Aside0 (ts.length ≤ 1000000) := ⟨by omega⟩
 have z1 : Aside0 (n ≤ 1000000) := ⟨by omega⟩
 have HIN := Aside0.mk hin
 clear h0 h1 hT hN hT0 hN0 st st0 hok' hnt hdec hfit hup hi hnn hs so stl hft hn hin
 go_enter Tryz.func67, Tryz.ntmps67
 go_wp2_with (go_at_call 87; refine FC.out.mono ?_; rintro e w1 ⟨rfl, hb1⟩)
 have hS1 := (Since.mk hb1).drew
 go_region_held3 (fun w' => (w'.cell? ⟨b, 0, none⟩ = some (.slice A0 n c0) ∧ w'.cell? ⟨b, 1, none⟩ = some (.slice A1 0 c1)) ∧ Since W w')
  (first | exact HKP.out _ hS1 | (go_split_ands; first | exact HKP.out _ (Since.step (by assumption) (by assumption)) | exact HKP.out _ (Since.alloc (by assumption) _)))
  (first
  | (go_at_call 88; ((with_reducible refine (cloneNF_calls _ ok' _ 0 _ [] ?s1 (by simp) rfl).mono ?_)); (case s1 => (go_split_ands; exact Kd.F_below HN0.out (Since.b (by assumption)))); rintro e w2 ⟨Ak, ck, rfl, hck, hFk, hb2⟩))
 obtain ⟨mb, hmb⟩ : ∃ mb, mb = w2.heap.size := ⟨_, rfl⟩
 obtain ⟨X, hX⟩ : ∃ X, X = w2.alloc (.cells #[.slice A0 n c0, .slice Ak 0 ck] 132) := ⟨_, rfl⟩
 have HXM := Aside0.mk (show X.heap[mb]? = some (.cells #[.slice A0 n c0, .slice Ak 0 ck] 132 (0, 0)) by rw [hX, hmb]; exact heap_alloc_new _ _)
 have HX2 := Aside0.mk (show Below w2.heap.size w2 X by rw [hX]; exact below_alloc (Below.refl _ _) _)
 have HSX := Aside0.mk (show Since W X by rw [hX]; exact (hS1.step hb2).alloc _)
 have HMW := Aside0.mk (show W.heap.size ≤ mb by rw [hmb]; exact (hS1.step hb2).b.size)
 have HMB := Aside0.mk hmb
 have HFK := Aside0.mk (Kd.F_mono hFk (fun k hk => hk.imp id (fun h => Nat.le_trans hS1.b.size h)) : Kd.F KN w2 (Plus ok' W.heap.size) Ak 0 [])
 obtain ⟨hx0, hx1⟩ := (HKP.out X HSX.out).1
 rw [← hX, ← hmb]
 have HOX := Aside0.mk (show ∀ k, ok' k → k < X.heap.size from fun k hk => by rw [HOK.out] at hk; exact Nat.lt_of_lt_of_le hk.2 HSX.out.b.size)
 clear hX hmb hS1 hb1 hb2 hFk
 go_wp2_with (first
  | (go_at_call 90; ((with_reducible refine (cloneTR_calls X ok' A0 n c0 ts ?s1 ?s2 ?s3).mono ?_)); (case s1 => exact (HNN.out ▸ Kd.F_below HT0.out HSX.out.b)); (case s2 => exact z0.out); (case s3 => exact HNN.out); rintro e w3 ⟨A3, c3, us, rfl, hE, ho, hb3⟩; have HE := Aside0.mk hE; have HO := Aside0.mk ho; have HB3 := Aside0.mk hb3; clear hE ho hb3)
  | (go_at_call 89; ((with_reducible refine (insT_after X w3 ok' A3 n c3 ts us HE.out HO.out HB3.out ?s1 HNN.out z1.out i HIN.out t At ct ?s2).mono ?_)); (case s1 => exact HOX.out); (case s2 => exact HST.out.step fun k _ hk => HSX.out.b.block k hk); rintro e w4 ⟨A4, c4, rfl, hc4, hF4, hb4⟩; have hm4 := cell_of_heap (blk hb4 HXM.out) 0; have fm4 := free_of_heap (blk hb4 HXM.out) 0; have HF4 := Aside0.mk hF4; have HB4 := Aside0.mk hb4; clear hF4 hb4))
 go_ret
 have xm := (Array.getElem?_eq_some_iff.1 HXM.out).1
 have hmw := HMW.out
 have hmb := HMB.out
 have hlen : n + 1 = (insL ts i t).length := by have := HNN.out; have := HIN.out; simp [insL]; omega
 refine ⟨mb, BT.mk (insL ts i t) [], rfl, (((HSX.out.step HB4.out).set HMW.out _ _).b), .mk mb A4 c4 Ak ck (insL ts i t) [] [] (.inr HMW.out) ?_ ?_ (hlen ▸ hc4) (Nat.zero_le _) rfl ?_ ?_ (fun i h => by simp at h), ?_⟩
 ·rw [← hlen]; exact World.cell?_setCell_same' _ _ _ (by rw [hm4]; rfl)
 ·rw [World.cell?_setCell_other _ _ _ _ (fun e => by injection e with _ e; cases e)]
  exact (cell_of_heap (blk HB4.out HXM.out) 1).trans rfl
 ·refine hlen ▸ Kd.F_mono (Kd.F_step HF4.out fun k hk hlt => Below.heap_setCell _ _ _ _ ?_) (fun k hk => hk.imp (fun hk => by have := hk; rw [HOK.out] at this; exact this.1) (fun hk => Nat.le_trans HSX.out.b.size hk))
  show k ≠ mb
  rcases hk with hk | hk
  ·rw [HOK.out] at hk
   have := hk.2
   omega
  ·omega
 ·refine Kd.F_mono (Kd.F_step HFK.out fun k hk hlt => ?_) (fun k hk => hk.imp (fun hk => by have := hk; rw [HOK.out] at this; exact this.1) id)
  have s2 := HX2.out.size
  rw [Below.heap_setCell _ _ _ _ (show k ≠ mb by omega), HB4.out.block k (by omega), HX2.out.block k hlt]
 ·rw [HI.out]; exact leaf_io o t ts
end Go.Proofs.YtcmllllbmgcnlaaGreat.Tup
end
