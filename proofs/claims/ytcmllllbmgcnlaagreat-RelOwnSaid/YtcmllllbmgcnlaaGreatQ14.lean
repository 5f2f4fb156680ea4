/- Own texts, joined and cut to what the claim stands on: BtRow, BtPutLaw. -/
import Derived.Test.YtcmllllbmgcnlaaGreatQ12
import Derived.Test.YtcmllllbmgcnlaaGreatQ13
section
namespace Go.Proofs.YtcmllllbmgcnlaaGreat.Tup
open Go.RowKit Go.Lib Go.Proofs.YtcmllllbmgcnlaaGreat.G Go.Proofs.YtcmllllbmgcnlaaGreatW.PrintWords Go.Proofs.YtcmllllbmgcnlaaGreatW.PrintLast Go.Proofs.YtcmllllbmgcnlaaGreatW.PrintMore
set_option linter.unusedVariables false
set_option linter.unusedSimpArgs false
inductive Els {α β : Type} (R : α → β → Prop) : List α → List β → Prop
  | nil : Els R [] []
  | cons {x : α} {u : β} {xs : List α} {us : List β} : R x u → Els R xs us → Els R (x :: xs) (u :: us)
namespace Els
variable {α β : Type} {R R' : α → β → Prop} {xs ys : List α} {us vs : List β}
theorem len (h : Els R xs us) : us.length = xs.length := by
  induction h with
  | nil => rfl
  | cons _ _ ih => simp [ih]
theorem get (h : Els R xs us) (i : Nat) (hi : i < xs.length) (hu : i < us.length) : R xs[i] us[i] := by
  induction h generalizing i with
  | nil => simp at hi
  | cons h0 _ ih =>
    cases i with
    | zero => exact h0
    | succ i => exact ih i (by simpa using hi) (by simpa using hu)
theorem of (hl : us.length = xs.length) (h : ∀ (i : Nat) (hi : i < xs.length) (hu : i < us.length), R xs[i] us[i]) : Els R xs us := by
  induction xs generalizing us with
  | nil => cases us with
    | nil => exact .nil
    | cons => simp at hl
  | cons x xs ih => cases us with
    | nil => simp at hl
    | cons u us => exact .cons (h 0 (by simp) (by simp)) (ih (by simpa using hl) fun i hi hu => h (i + 1) (by simpa using hi) (by simpa using hu))
theorem append (h : Els R xs us) (k : Els R ys vs) : Els R (xs ++ ys) (us ++ vs) := by
  induction h with
  | nil => exact k
  | cons h0 _ ih => exact .cons h0 ih
theorem take (h : Els R xs us) (n : Nat) : Els R (xs.take n) (us.take n) := by
  induction h generalizing n with
  | nil => simpa using Els.nil
  | cons h0 _ ih => cases n with
    | zero => simpa using Els.nil
    | succ n => simpa using Els.cons h0 (ih n)
theorem drop (h : Els R xs us) (n : Nat) : Els R (xs.drop n) (us.drop n) := by
  induction h generalizing n with
  | nil => simpa using Els.nil
  | cons h0 h1 ih => cases n with
    | zero => simpa using Els.cons h0 h1
    | succ n => simpa using ih n
theorem ins (h : Els R xs us) (i : Nat) {x : α} {u : β} (hx : R x u) : Els R (insL xs i x) (insL us i u) := (h.take i).append (.cons hx (h.drop i))
theorem imp (h : Els R xs us) (hi : ∀ x u, R x u → R' x u) : Els R' xs us := by
  induction h with
  | nil => exact .nil
  | cons h0 _ ih => exact .cons (hi _ _ h0) ih
theorem set (h : Els R xs us) (i : Nat) {x : α} {u : β} (hx : R x u) : Els R (xs.set i x) (us.set i u) := by
  induction h generalizing i with
  | nil => simpa using Els.nil
  | cons h0 h1 ih => cases i with
    | zero => exact .cons hx h1
    | succ i => exact .cons h0 (ih i)
end Els
def El {α : Type} (d : Kd α) (W : World) (ok : Nat → Prop) (x : α) (u : Value) : Prop := Kd.FK d W ok x [u]
theorem El.step {α : Type} {d : Kd α} {W W1 : World} {ok : Nat → Prop} {x : α} {u : Value} (h : El d W ok x u) (hm : ∀ k, ok k → k < W.heap.size → W1.heap[k]? = W.heap[k]?) : El d W1 ok x u := Foot.step h hm
theorem El.mono {α : Type} {d : Kd α} {W : World} {ok ok' : Nat → Prop} {x : α} {u : Value} (h : El d W ok x u) (hm : ∀ k, ok k → ok' k) : El d W ok' x u := Foot.mono h hm
theorem El.one {α : Type} {d : Kd α} {W : World} {ok : Nat → Prop} {x : α} {u : Value} (h : El d W ok x u) : u.oneCell' = true := d.K_one (Kd.FK_now h) u (by simp)
theorem els_one {α : Type} {d : Kd α} {W : World} {ok : Nat → Prop} {xs : List α} {us : List Value} (h : Els (El d W ok) xs us) : ∀ u ∈ us, u.oneCell' = true := fun u hu => by
  obtain ⟨i, hi, rfl⟩ := List.getElem_of_mem hu
  exact (h.get i (by rw [← h.len]; exact hi) hi).one
theorem els_step {α : Type} {d : Kd α} {W W1 : World} {ok : Nat → Prop} {xs : List α} {us : List Value} (h : Els (El d W ok) xs us) (hm : ∀ k, ok k → k < W.heap.size → W1.heap[k]? = W.heap[k]?) : Els (El d W1 ok) xs us := h.imp fun _ _ h => h.step hm
theorem rows_out {α : Type} {d : Kd α} {W : World} {ok : Nat → Prop} {A : Option Addr} {n : Nat} {xs : List α} (hd : d.sz = 1) (h : Kd.F d W ok A n xs) :
    ∃ us : List Value, Els (El d W ok) xs us ∧ us.length = n ∧ (A = none → n = 0) ∧ (∀ ad, A = some ad → ∀ j u, us[j]? = some u → W.cell? (ad.add j) = some u) := by
  have hl : xs.length = n := Kd.F_len h
  cases hA : A with
  | none =>
    have h0 : n = 0 := by
      rcases Nat.eq_zero_or_pos n with h0 | h0
      · exact h0
      · obtain ⟨ad, e, _⟩ := (Kd.F_now h).2.2 h0
        rw [hA] at e; cases e
    have : xs = [] := List.length_eq_zero_iff.1 (by omega)
    subst this
    exact ⟨[], .nil, by simpa using h0.symm, fun _ => h0, fun ad e => by cases e⟩
  | some ad =>
    have key : ∀ i (hi : i < xs.length), ∃ u, El d W ok xs[i] u ∧ W.cell? (ad.add i) = some u := fun i hi => by
      obtain ⟨ad', c, e, hcl, hK, hcc, _⟩ := Kd.F_get h xs[i] (i : Int) (by omega) (by omega)
      rw [hA] at e
      injection e with e
      subst e
      simp only [Int.toNat_natCast] at hK hcc
      rw [hd] at hcl hcc
      obtain ⟨u, rfl⟩ : ∃ u, c = [u] := by
        match c, hcl with
        | [u], _ => exact ⟨u, rfl⟩
      refine ⟨u, ?_, by simpa using hcc 0 u rfl⟩
      have eg : xs.getD i xs[i] = xs[i] := by simp [hi]
      rw [eg] at hK
      exact hK
    obtain ⟨us, hus⟩ : ∃ us : List Value, us = (List.range xs.length).map fun i => (W.cell? (ad.add i)).getD undef := ⟨_, rfl⟩
    have hul : us.length = xs.length := by simp [hus]
    have hget : ∀ i (hi : i < us.length), W.cell? (ad.add i) = some us[i] := fun i hi => by
      obtain ⟨u, _, hc⟩ := key i (by omega)
      simp [hus, hc]
    refine ⟨us, Els.of hul (fun i hi hu => ?_), by omega, (fun e => by cases e), fun ad' e j u hj => ?_⟩
    · obtain ⟨u, hE, hc⟩ := key i hi
      have := hget i hu
      rw [hc] at this
      injection this with this
      rw [← this]; exact hE
    · injection e with e
      subst e
      obtain ⟨hjl, hjp⟩ := List.getElem?_eq_some_iff.1 hj
      rw [hget j hjl, hjp]
theorem rows_in {α : Type} {d : Kd α} {W : World} {ok : Nat → Prop} {base e : Nat} {v : Value} {n : Nat} {xs : List α} {us : List Value} (hd : d.sz = 1) (ho : W.ownsRow base e 1 v n us) (h : Els (El d W ok) xs us) (hn : n = xs.length) :
    ∃ A c, v = .slice A xs.length c ∧ xs.length ≤ c ∧ Kd.F d W (fun k => ok k ∨ some k = v.ownBlock) A xs.length xs := by
  subst hn
  rcases ho.2 with ⟨rfl, h0⟩ | ⟨g, cap, cur, rfl, hbg, hg, hle, hmax, hsz, htk⟩
  · have : xs = [] := List.length_eq_zero_iff.1 h0
    subst this
    exact ⟨none, 0, rfl, Nat.le_refl _, Kd.F_nil d W _⟩
  · refine ⟨some ⟨g, 0, none⟩, cap, rfl, hle, fun W' hW => ⟨rfl, by unfold maxLen at hmax; omega, fun _ => ⟨_, rfl, fun j p hj => ?_⟩⟩⟩
    obtain ⟨hjl, hjp⟩ := List.getElem?_eq_some_iff.1 hj
    have hju : j < us.length := by rw [h.len]; exact hjl
    have hE := h.get j hjl hju
    rw [hjp] at hE
    have hgl := (Array.getElem?_eq_some_iff.1 hg).1
    have hg' : W'.heap[g]? = some (.cells cur e (0, 0)) := (hW g (.inr rfl) hgl).trans hg
    refine ⟨[us[j]], hd.symm, hE W' (fun k hk hlt => hW k (.inl hk) hlt), fun t u ht => ?_⟩
    have ht0 : t = 0 := by
      match t, ht with
      | 0, _ => rfl
    subst ht0
    have hu : us[j] = u := by simpa using ht
    rw [hd, Addr.add_lit, cell_of_heap hg']
    have h1 : (cur.toList.take (xs.length * 1))[j]? = some us[j] := by rw [htk]; exact List.getElem?_eq_getElem hju
    rw [List.getElem?_take] at h1
    split at h1
    · rw [← hu]; simpa using h1
    · cases h1
theorem el_tup {W : World} {ok : Nat → Prop} {t : Tp} {u : Value} (h : El KT W ok t u) : ∃ A c, u = .slice A t.length c ∧ t.length ≤ c ∧ Kd.F (Kd.int .i64) W ok A t.length t := by
  obtain ⟨A, c, e, hl, hC⟩ := Kd.FK_now h
  injection e with e _
  subst e
  refine ⟨A, c, rfl, hl, fun W' hW => ?_⟩
  obtain ⟨A', c', e, hl', hC'⟩ := h W' hW
  injection e with e _
  injection e with e1 e2 e3
  subst e1
  exact hC'
theorem tup_el {W : World} {ok : Nat → Prop} {t : Tp} {A : Option Addr} {c : Nat} (hl : t.length ≤ c) (h : Kd.F (Kd.int .i64) W ok A t.length t) : El KT W ok t (.slice A t.length c) := fun W' hW => ⟨A, c, rfl, hl, h W' hW⟩
theorem nod_el {W : World} {ok : Nat → Prop} (b : Nat) : El KN W ok b (.pointer (some ⟨b, 0, none⟩)) := fun W' hW => rfl
theorem el_nod {W : World} {ok : Nat → Prop} {b : Nat} {u : Value} (h : El KN W ok b u) : u = .pointer (some ⟨b, 0, none⟩) := by
  have := Kd.FK_now h
  have e : [u] = [Value.pointer (some ⟨b, 0, none⟩)] := this
  injection e
def Plus (ok : Nat → Prop) (n : Nat) : Nat → Prop := fun k => ok k ∨ n ≤ k
theorem own_ge {W : World} {base e s : Nat} {v : Value} {n : Nat} {xs : List Value} (h : W.ownsRow base e s v n xs) : ∀ k, some k = v.ownBlock → base ≤ k := by
  rcases h.2 with ⟨rfl, _⟩ | ⟨g, cap, cur, rfl, hb, _⟩
  · intro k hk; simp [Value.ownBlock] at hk
  · intro k hk
    have : k = g := by simpa [Value.ownBlock] using hk
    omega
theorem own_lt {W : World} {base e s : Nat} {v : Value} {n : Nat} {xs : List Value} (h : W.ownsRow base e s v n xs) : ∀ k, some k = v.ownBlock → k < W.heap.size := by
  rcases h.2 with ⟨rfl, _⟩ | ⟨g, cap, cur, rfl, hb, hg, _⟩
  · intro k hk; simp [Value.ownBlock] at hk
  · intro k hk
    have : k = g := by simpa [Value.ownBlock] using hk
    subst this
    exact (Array.getElem?_eq_some_iff.1 hg).1
theorem cloneT_calls (W : World) (ok : Nat → Prop) (A : Option Addr) (c : Nat) (ts : List Tp) (h : Kd.F KT W ok A ts.length ts) (hn : ts.length ≤ 1000000) :
    Calls Tryz.prog 90 #[.slice A ts.length c] W fun e w' => ∃ v us, e = .returned v ∧ Els (El KT W ok) ts us ∧ w'.ownsRow W.heap.size 23 1 v ts.length us ∧ Below W.heap.size W w' := by
  obtain ⟨us, hE, hl, hA, hc⟩ := rows_out rfl h
  refine (clT_calls W A ts.length c us hl hA hc (els_one hE) (by omega) (by unfold maxLen; omega)).mono ?_
  rintro e w' ⟨v, rfl, ho, hb⟩
  exact ⟨v, us, rfl, hE, ho, hb⟩
theorem cloneN_calls (W : World) (ok : Nat → Prop) (A : Option Addr) (c : Nat) (ps : List Nat) (h : Kd.F KN W ok A ps.length ps) (hn : ps.length ≤ 1000000) :
    Calls Tryz.prog 88 #[.slice A ps.length c] W fun e w' => ∃ v us, e = .returned v ∧ Els (El KN W ok) ps us ∧ w'.ownsRow W.heap.size 126 1 v ps.length us ∧ Below W.heap.size W w' := by
  obtain ⟨us, hE, hl, hA, hc⟩ := rows_out rfl h
  refine (clN_calls W A ps.length c us hl hA hc (els_one hE) (by omega) (by unfold maxLen; omega)).mono ?_
  rintro e w' ⟨v, rfl, ho, hb⟩
  exact ⟨v, us, rfl, hE, ho, hb⟩
theorem cloneI_calls (W : World) (A : Option Addr) (c : Nat) (t : Tp) (h : Sl W A c t) (hn : t.length ≤ 1000000) :
    Calls Tryz.prog 44 #[.slice A t.length c] W fun e w' => ∃ A' c', e = .returned (.slice A' t.length c') ∧ t.length ≤ c' ∧ Kd.F (Kd.int .i64) w' (fun k => W.heap.size ≤ k) A' t.length t ∧ Below W.heap.size W w' := by
  obtain ⟨us, hE, hl, hA, hc⟩ := rows_out rfl (Kd.C_F (Kd.heap_int .i64) h.C)
  refine (clI_calls W A t.length c us hl hA hc (els_one hE) (by omega) (by unfold maxLen; omega)).mono ?_
  rintro e w' ⟨v, rfl, ho, hb⟩
  obtain ⟨A', c', rfl, hle, hF⟩ := rows_in (d := Kd.int .i64) (ok := fun _ => False) rfl ho (hE.imp fun x u hx => fun W' _ => (show (Kd.int .i64).K W x [u] from Kd.FK_now hx)) rfl
  exact ⟨A', c', rfl, hle, Kd.F_mono hF (fun k hk => hk.elim False.elim (own_ge ho k)), hb⟩
end Go.Proofs.YtcmllllbmgcnlaaGreat.Tup
end
section
namespace Go.Proofs.YtcmllllbmgcnlaaGreat.Tup
open Go.RowKit Go.Lib Go.Proofs.YtcmllllbmgcnlaaGreat.G Go.Proofs.YtcmllllbmgcnlaaGreatW.PrintWords Go.Proofs.YtcmllllbmgcnlaaGreatW.PrintLast Go.Proofs.YtcmllllbmgcnlaaGreatW.PrintMore
set_option linter.unusedVariables false
set_option linter.unusedSimpArgs false
theorem weave_set (ks : List (List Tp)) (ts : List Tp) (i : Nat) (y : List Tp) (h : ks.length = ts.length + 1) (hi : i ≤ ts.length) : weave (ks.set i y) ts = ahead ks ts i ++ (y ++ behind ks ts i) := by
  rw [weave_at (ks.set i y) ts i (by simpa using h) hi]
  have e1 : ahead (ks.set i y) ts i = ahead ks ts i := by
    rw [ahead_take (ks.set i y), ahead_take ks, List.take_set_of_le (Nat.le_refl i)]
  have e2 : (ks.set i y)[i]?.getD [] = y := by simp [show i < ks.length by omega]
  have e3 : behind (ks.set i y) ts i = behind ks ts i := by unfold behind; rw [List.drop_set_of_lt (by omega)]
  rw [e1, e2, e3]
theorem weave_insert (ks : List (List Tp)) (ts : List Tp) (i : Nat) (l r : List Tp) (x : Tp) (h : ks.length = ts.length + 1) (hi : i ≤ ts.length) : weave (insL (ks.set i l) (i + 1) r) (insL ts i x) = ahead ks ts i ++ ((l ++ x :: r) ++ behind ks ts i) := by
  induction i generalizing ks ts with
  | zero => cases ks with
    | nil => simp at h
    | cons k ks =>
      have e := weave_zero r ks ts (by simpa using h)
      cases ts with
      | nil =>
        have : ks = [] := List.length_eq_zero_iff.1 (by simpa using h)
        subst this
        simp [insL, weave, ahead, behind, behind0]
      | cons t ts =>
        simp only [insL, List.set_cons_zero, List.take_succ_cons, List.take_zero, List.drop_succ_cons, List.drop_zero, List.nil_append, List.cons_append, weave, ahead, behind]
        simp only [weave] at e
        rw [e]; simp
  | succ i ih => cases ks with
    | nil => simp at h
    | cons k ks => cases ts with
      | nil => simp at hi
      | cons t ts =>
        have := ih ks ts (by simpa using h) (by simpa using hi)
        simp only [insL, List.set_cons_succ, List.take_succ_cons, List.drop_succ_cons, List.cons_append, weave, ahead] at this ⊢
        rw [this]; simp [behind]
theorem weave_parts (ks : List (List Tp)) (ts : List Tp) (h : Nat) (hl : ks = [] ∨ ks.length = ts.length + 1) (hh : h < ts.length) : weave ks ts = weave (ks.take (h + 1)) (ts.take h) ++ (ts[h]?.getD []) :: weave (ks.drop (h + 1)) (ts.drop (h + 1)) := by
  induction h generalizing ks ts with
  | zero => cases ts with
    | nil => simp at hh
    | cons t ts =>
      rcases hl with rfl | hl
      · simp [weave]
      · cases ks with
        | nil => simp at hl
        | cons k ks => simp [weave]
  | succ h ih => cases ts with
    | nil => simp at hh
    | cons t ts =>
      rcases hl with rfl | hl
      · have := ih [] ts (.inl rfl) (by simpa using hh)
        simp [weave] at this ⊢
        exact this
      · cases ks with
        | nil => simp at hl
        | cons k ks =>
          have := ih ks ts (.inr (by simpa using hl)) (by simpa using hh)
          simp only [List.take_succ_cons, List.drop_succ_cons, weave, List.getElem?_cons_succ]
          rw [this]; simp
theorem leaf_io (o t : Tp) (ts : List Tp) : (BT.mk (insL ts (idx o ts t) t) []).Ok ∧ (BT.mk (insL ts (idx o ts t) t) []).io = insO o t (BT.mk ts []).io := by
  refine ⟨(BT.ok_mk _ _).2 ⟨.inl rfl, by simp⟩, ?_⟩
  rw [BT.io_mk, BT.io_mk]
  rfl
theorem kid_io {o t : Tp} {ts : List Tp} {kids : List BT} (hok : (BT.mk ts kids).Ok) (hu : Up o (BT.mk ts kids).io) (hf : ∀ a ∈ (BT.mk ts kids).io, Fit o a) (ht : Fit o t) (hn : t ∉ ts) (hi : idx o ts t < kids.length) (K : BT) (hK : K.Ok) (hKi : K.io = insO o t (kids[idx o ts t]).io) :
    (BT.mk ts (kids.set (idx o ts t) K)).Ok ∧ (BT.mk ts (kids.set (idx o ts t) K)).io = insO o t (BT.mk ts kids).io := by
  have hl : kids.length = ts.length + 1 := by
    rcases ((BT.ok_mk ts kids).1 hok).1 with h | h
    · simp [h] at hi
    · exact h
  have hks := ((BT.ok_mk ts kids).1 hok).2
  have hii := idx_le o ts t
  constructor
  · refine (BT.ok_mk _ _).2 ⟨.inr (by simpa using hl), fun k hk => ?_⟩
    rcases List.mem_or_eq_of_mem_set hk with h | h
    · exact hks k h
    · subst h; exact hK
  · rw [BT.io_mk] at hu hf ⊢
    rw [BT.io_mk, List.map_set, weave_set _ ts _ _ (by simpa using hl) hii]
    obtain ⟨hA, hB⟩ := around (by simp [hl]) hu hf ht hn
    rw [weave_at (kids.map BT.io) ts (idx o ts t) (by simp [hl]) hii, insO_append o t _ _ _ hA (fun a ha h => (hB a ha).asymm h), hKi]
    have eg : (kids.map BT.io)[idx o ts t]?.getD [] = (kids[idx o ts t]).io := by
      rw [List.getElem?_map, List.getElem?_eq_getElem hi]; rfl
    rw [eg]
theorem kids_io {o t : Tp} {ts : List Tp} {kids : List BT} (hok : (BT.mk ts kids).Ok) (hu : Up o (BT.mk ts kids).io) (hf : ∀ a ∈ (BT.mk ts kids).io, Fit o a) (ht : Fit o t) (hn : t ∉ ts) (hi : idx o ts t < kids.length) (ts' : List Tp) (kids' : List BT) (hK : (BT.mk ts' kids').Ok) (hKi : (BT.mk ts' kids').io = insO o t (kids[idx o ts t]).io) (h : Nat) (hh : h < ts'.length) :
    let L := BT.mk (ts'.take h) (kids'.take (h + 1))
    let R := BT.mk (ts'.drop (h + 1)) (kids'.drop (h + 1))
    let T := BT.mk (insL ts (idx o ts t) (ts'[h]?.getD [])) (insL (kids.set (idx o ts t) L) (idx o ts t + 1) R)
    T.Ok ∧ T.io = insO o t (BT.mk ts kids).io := by
  intro L R T
  have hl : kids.length = ts.length + 1 := by
    rcases ((BT.ok_mk ts kids).1 hok).1 with h | h
    · simp [h] at hi
    · exact h
  have hks := ((BT.ok_mk ts kids).1 hok).2
  have hks' := ((BT.ok_mk ts' kids').1 hK).2
  have hl' := ((BT.ok_mk ts' kids').1 hK).1
  have hii := idx_le o ts t
  have hL : L.Ok := by
    refine (BT.ok_mk _ _).2 ⟨?_, fun k hk => hks' k (List.mem_of_mem_take hk)⟩
    rcases hl' with e | e
    · left; simp [e]
    · right; simp; omega
  have hR : R.Ok := by
    refine (BT.ok_mk _ _).2 ⟨?_, fun k hk => hks' k (List.mem_of_mem_drop hk)⟩
    rcases hl' with e | e
    · left; simp [e]
    · right; simp; omega
  have hLR : L.io ++ (ts'[h]?.getD []) :: R.io = (BT.mk ts' kids').io := by
    rw [BT.io_mk, BT.io_mk, BT.io_mk, weave_parts (kids'.map BT.io) ts' h (by rcases hl' with e | e
                                                                              · left; simp [e]
                                                                              · right; simpa using e) hh, List.map_take, List.map_drop]
  constructor
  · refine (BT.ok_mk _ _).2 ⟨.inr (by simp [insL]; omega), fun k hk => ?_⟩
    simp only [insL, List.mem_append, List.mem_cons] at hk
    have hset : ∀ k, k ∈ kids.set (idx o ts t) L → k.Ok := fun k hk => by
      rcases List.mem_or_eq_of_mem_set hk with h | h
      · exact hks k h
      · subst h; exact hL
    rcases hk with h | h | h
    · exact hset k (List.mem_of_mem_take h)
    · subst h; exact hR
    · exact hset k (List.mem_of_mem_drop h)
  · rw [BT.io_mk] at hu hf ⊢
    have em : (insL (kids.set (idx o ts t) L) (idx o ts t + 1) R).map BT.io = insL ((kids.map BT.io).set (idx o ts t) L.io) (idx o ts t + 1) R.io := by
      simp [insL, List.map_set]
    rw [BT.io_mk, em, weave_insert _ ts _ _ _ _ (by simpa using hl) hii]
    obtain ⟨hA, hB⟩ := around (by simp [hl]) hu hf ht hn
    rw [weave_at (kids.map BT.io) ts (idx o ts t) (by simp [hl]) hii, insO_append o t _ _ _ hA (fun a ha h => (hB a ha).asymm h), hLR, hKi]
    have eg : (kids.map BT.io)[idx o ts t]?.getD [] = (kids[idx o ts t]).io := by
      rw [List.getElem?_map, List.getElem?_eq_getElem hi]; rfl
    rw [eg]
theorem root_io (ts : List Tp) (kids : List BT) (hK : (BT.mk ts kids).Ok) (h : Nat) (hh : h < ts.length) :
    let T := BT.mk [ts[h]?.getD []] [BT.mk (ts.take h) (kids.take (h + 1)), BT.mk (ts.drop (h + 1)) (kids.drop (h + 1))]
    T.Ok ∧ T.io = (BT.mk ts kids).io := by
  intro T
  have hks := ((BT.ok_mk ts kids).1 hK).2
  have hl := ((BT.ok_mk ts kids).1 hK).1
  constructor
  · refine (BT.ok_mk _ _).2 ⟨.inr rfl, fun k hk => ?_⟩
    simp only [List.mem_cons, List.not_mem_nil, or_false] at hk
    rcases hk with rfl | rfl
    · refine (BT.ok_mk _ _).2 ⟨?_, fun k hk => hks k (List.mem_of_mem_take hk)⟩
      rcases hl with e | e
      · left; simp [e]
      · right; simp; omega
    · refine (BT.ok_mk _ _).2 ⟨?_, fun k hk => hks k (List.mem_of_mem_drop hk)⟩
      rcases hl with e | e
      · left; simp [e]
      · right; simp; omega
  · rw [BT.io_mk, BT.io_mk, weave_parts (kids.map BT.io) ts h (by rcases hl with e | e
                                                                  · left; simp [e]
                                                                  · right; simpa using e) hh]
    simp [weave, BT.io_mk]
end Go.Proofs.YtcmllllbmgcnlaaGreat.Tup
end
