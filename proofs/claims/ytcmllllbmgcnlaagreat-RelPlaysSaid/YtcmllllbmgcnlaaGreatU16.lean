/- Own texts, joined and cut to what the claim stands on: BtSeq, BtWalkLaw, BtWalkA, BtAll, BtBelow. -/
import Derived.RangeFuncNested
import Derived.RangeFuncBound
import Derived.RangeFuncCalls
import Derived.RangeFuncLeaves
import Derived.Shelf.Abstract
import Derived.Shelf.RegionOpen
import Derived.WalkKit
import Derived.OwnWalkIn
import Derived.TacticsInMore
import Derived.LoopNIn
import Derived.LoopIn
import Derived.Test.YtcmllllbmgcnlaaGreatU14
section
namespace Go.Proofs.YtcmllllbmgcnlaaGreat.Tup
open Go.RowKit Go.Lib Go.Proofs.YtcmllllbmgcnlaaGreat.G Go.Proofs.YtcmllllbmgcnlaaGreatW.PrintWords Go.Proofs.YtcmllllbmgcnlaaGreatW.PrintLast Go.Proofs.YtcmllllbmgcnlaaGreatW.PrintMore
set_option linter.unusedVariables false
set_option linter.unusedSimpArgs false
theorem roomOf {F : Fence} (hd : F.depth = none) (k : Nat) : F.room k := fun d h => by rw [hd] at h; cases h
theorem roundAny {F : Fence} (hd : F.depth = none) {m m' : Nat} {P : Program} {l : Nat} {f : FuncId} {tmps : Array Value} {assign body : Code} {w : World} {R : Ending → World → Prop}
  (h : RoundIn F m P l f tmps assign body w R) : RoundIn F m' P l f tmps assign body w R := ⟨h.1, fun c cs _ => h.2 c cs (roomOf hd _)⟩
theorem yieldAny {F : Fence} (hd : F.depth = none) {m : Nat} (m' : Nat) {P : Program} {l : Nat} {args : Array Value} {W : World} {R : Ending → World → Prop} (h : YieldAt F m P l args W R) : YieldAt F m' P l args W R := by
 obtain ⟨fn, tmps, assign, body, hy, hR⟩ := h
 exact ⟨fn, tmps, assign, body, hy, roundAny hd hR⟩
structure KpF (fp : Nat → Prop) (W W' : World) : Prop where
 size : W.heap.size ≤ W'.heap.size
 same : ∀ k, fp k → k < W.heap.size → W'.heap[k]? = W.heap[k]?
theorem KpF.refl (fp : Nat → Prop) (W : World) : KpF fp W W := ⟨Nat.le_refl _, fun _ _ _ => rfl⟩
theorem KpF.trans {fp : Nat → Prop} {A B C : World} (h : KpF fp A B) (k : KpF fp B C) : KpF fp A C := ⟨Nat.le_trans h.size k.size, fun i hi hlt => (k.same i hi (Nat.lt_of_lt_of_le hlt h.size)).trans (h.same i hi hlt)⟩
theorem KpF.below {fp : Nat → Prop} {A B : World} (h : Below A.heap.size A B) : KpF fp A B := ⟨h.size, fun k _ hlt => h.block k hlt⟩
theorem KpF.cell {fp : Nat → Prop} {A B : World} (h : KpF fp A B) {b j : Nat} {v : Value} (hb : fp b) (hc : A.cell? ⟨b, j, none⟩ = some v) : B.cell? ⟨b, j, none⟩ = some v := cell_step h.same hb hc
theorem KpF.mono {fp fp' : Nat → Prop} {A B : World} (h : KpF fp A B) (hm : ∀ k, fp' k → fp k) : KpF fp' A B := ⟨h.size, fun k hk hlt => h.same k (hm k hk) hlt⟩
def Handed1 (W0 W1 : World) (A : Option Addr) (c : Nat) (x : Tp) : Prop := Below W0.heap.size W0 W1 ∧ W1.ownsRow W0.heap.size 3 1 (.slice A x.length c) x.length (x.map (Value.int .i64))
def Rounds (F : Fence) (P : Program) (l : Nat) (J Jx : List Tp → World → Prop) (fp : Nat → Prop) (xs : List Tp) : Prop :=
 ∀ m pre x A c W0 W1, J pre W0 → pre ++ [x] <+: xs → Handed1 W0 W1 A c x → YieldAt F m P l #[.slice A x.length c] W1 fun e W' => (e = .returned (.bool true) ∧ J (pre ++ [x]) W' ∧ KpF fp W1 W') ∨ (e = .returned (.bool false) ∧ Jx (pre ++ [x]) W')
def Priv (fp : Nat → Prop) (a N : Nat) : Nat → Prop := fun k => fp k ∨ (a ≤ k ∧ k < N)
def SeqR (F : Fence) (P : Program) (gf : Nat) (lb : Array Value) (fp : Nat → Prop) (xs : List Tp) (w : World) : Prop :=
 ∀ (l : Nat) (J Jx : Nat → List Tp → World → Prop) (W : World), Below w.heap.size w W → (∀ N, W.heap.size ≤ N → AbidesFrom W.heap.size (J N)) → (∀ N, W.heap.size ≤ N → AbidesFrom W.heap.size (Jx N)) → (∀ N, W.heap.size ≤ N → Rounds F P l (J N) (Jx N) (Priv fp W.heap.size N) xs) → (∀ W', Below W.heap.size W W' → J W'.heap.size [] W') →
  ∀ n, CallsIn F n P gf (#[.func (.yield l) #[] #[]] ++ lb) W fun e W' => (∃ v, e = .returned v) ∧ ∃ N, W.heap.size ≤ N ∧ (J N xs W' ∨ ∃ pre, pre <+: xs ∧ Jx N pre W')
def front (ks : List (List Tp)) (ts : List Tp) (i : Nat) : List Tp := weave (ks.take i) (ts.take i)
theorem front_zero (ks : List (List Tp)) (ts : List Tp) : front ks ts 0 = [] := by simp [front, weave]
theorem front_succ (ks : List (List Tp)) (ts : List Tp) (i : Nat) (h : ks.length = ts.length + 1) (hi : i < ts.length) : front ks ts (i + 1) = front ks ts i ++ ((ks[i]?.getD []) ++ [ts[i]?.getD []]) := by
 unfold front
 induction i generalizing ks ts with
 | zero => cases ks with
  | nil => simp at h
  | cons k ks => cases ts with
   | nil => simp at hi
   | cons t ts => simp [weave]
 | succ i ih => cases ks with
  | nil => simp at h
  | cons k ks => cases ts with
   | nil => simp at hi
   | cons t ts =>
    have := ih ks ts (by simpa using h) (by simpa using hi)
    simp only [List.take_succ_cons, weave, List.getElem?_cons_succ]
    rw [this]; simp
theorem front_last (ks : List (List Tp)) (ts : List Tp) (h : ks.length = ts.length + 1) : front ks ts (ts.length + 1) = front ks ts ts.length ++ (ks[ts.length]?.getD []) := by
 unfold front
 induction ts generalizing ks with
 | nil => cases ks with
  | nil => simp at h
  | cons k ks =>
   have : ks = [] := List.length_eq_zero_iff.1 (by simpa using h)
   subst this
   simp [weave]
 | cons t ts ih => cases ks with
  | nil => simp at h
  | cons k ks =>
   have := ih ks (by simpa using h)
   simp only [List.length_cons, List.take_succ_cons, weave, List.getElem?_cons_succ]
   rw [this]; simp
theorem front_all (ks : List (List Tp)) (ts : List Tp) (h : ks.length = ts.length + 1) : front ks ts (ts.length + 1) = weave ks ts := by
 unfold front
 rw [List.take_of_length_le (by omega), List.take_of_length_le (by omega)]
theorem front_pre (ks : List (List Tp)) (ts : List Tp) (i : Nat) (h : ks.length = ts.length + 1) (hi : i ≤ ts.length) : front ks ts i <+: weave ks ts := by
 rw [← front_all ks ts h]
 have : ∀ d, i + d ≤ ts.length + 1 → front ks ts i <+: front ks ts (i + d) := by
  intro d
  induction d with
  | zero => intro _; exact List.prefix_refl _
  | succ d ih =>
   intro hd
   refine (ih (by omega)).trans ?_
   by_cases hl : i + d < ts.length
   ·rw [← Nat.add_assoc, front_succ ks ts (i + d) h hl]; exact List.prefix_append _ _
   ·have : i + d = ts.length := by omega
    rw [← Nat.add_assoc, this, front_last ks ts h]; exact List.prefix_append _ _
 have := this (ts.length + 1 - i) (by omega)
 rwa [show i + (ts.length + 1 - i) = ts.length + 1 by omega] at this
def sel (p : Tp → Bool) (L : List Tp) : List Tp := L.filter fun x => !p x
theorem sel_append (p : Tp → Bool) (L M : List Tp) : sel p (L ++ M) = sel p L ++ sel p M := List.filter_append ..
theorem sel_prefix (p : Tp → Bool) {L M : List Tp} (h : L <+: M) : sel p L <+: sel p M := by
 obtain ⟨r, rfl⟩ := h
 rw [sel_append]; exact List.prefix_append _ _
theorem sel_none (p : Tp → Bool) (L : List Tp) (h : ∀ x ∈ L, p x = true) : sel p L = [] := List.filter_eq_nil_iff.2 fun x hx => by simp [h x hx]
theorem sel_yes (p : Tp → Bool) (x : Tp) (h : p x = false) : sel p [x] = [x] := by simp [sel, h]
theorem sel_false (L : List Tp) : sel (fun _ => false) L = L := by simp [sel]
def kidl (ts : List Tp) (kids : List BT) : List (List Tp) := if kids = [] then List.replicate (ts.length + 1) [] else kids.map BT.io
theorem kidl_len {ts : List Tp} {kids : List BT} (h : (BT.mk ts kids).Ok) : (kidl ts kids).length = ts.length + 1 := by
 unfold kidl
 split
 ·simp
 ·rename_i hk
  rcases ((BT.ok_mk ts kids).1 h).1 with h | h
  ·exact absurd h hk
  ·simpa using h
theorem weave_none (ts : List Tp) : weave (List.replicate (ts.length + 1) []) ts = ts := by
 induction ts with
 | nil => simp [weave]
 | cons t ts ih => simp only [List.length_cons]; rw [List.replicate_succ]; simp only [weave]; rw [ih]; rfl
theorem kidl_io {ts : List Tp} {kids : List BT} : weave (kidl ts kids) ts = (BT.mk ts kids).io := by
 rw [BT.io_mk]; unfold kidl
 split
 ·rename_i h; subst h; rw [weave_none]; simp [weave]
 ·rfl
theorem kidl_leaf (ts : List Tp) (i : Nat) : (kidl ts [])[i]?.getD [] = [] := by
 simp only [kidl, if_true]
 rw [List.getElem?_replicate]; split <;> rfl
theorem kidl_kid {ts : List Tp} {kids : List BT} (i : Nat) (hi : i < kids.length) : (kidl ts kids)[i]?.getD [] = (kids[i]).io := by
 unfold kidl
 rw [if_neg (by intro e; simp [e] at hi)]
 simp [hi]
theorem below_all {o : Tp} {p : Tp → Bool} {ts : List Tp} {kids : List BT} (h : (BT.mk ts kids).Ok) (hu : Up o (BT.mk ts kids).io) (hp : ∀ x y, x ∈ (BT.mk ts kids).io → y ∈ (BT.mk ts kids).io → Lt o x y → p y = true → p x = true) (i : Nat) (hi : i < ts.length) (hpi : p (ts[i]?.getD []) = true) : sel p (front (kidl ts kids) ts (i + 1)) = [] := by
 have hl := kidl_len h
 have e := front_succ (kidl ts kids) ts i hl hi
 have hpre := front_pre (kidl ts kids) ts (i + 1) hl (by omega)
 rw [kidl_io] at hpre
 have hsub : ∀ x ∈ front (kidl ts kids) ts (i + 1), x ∈ (BT.mk ts kids).io := fun x hx => hpre.subset hx
 have hup : Up o (front (kidl ts kids) ts (i + 1)) := List.Pairwise.sublist hpre.sublist hu
 refine sel_none p _ fun x hx => ?_
 rw [e, ← List.append_assoc] at hx hup
 have hmem : ts[i]?.getD [] ∈ (BT.mk ts kids).io := hsub _ (by rw [e]; simp)
 rcases List.mem_append.1 hx with hx | hx
 ·exact hp x _ (hsub x (by rw [e, ← List.append_assoc]; exact List.mem_append_left _ hx)) hmem ((List.pairwise_append.1 hup).2.2 x hx _ (by simp)) hpi
 ·have : x = ts[i]?.getD [] := by simpa using hx
  rw [this]; exact hpi
theorem els_ints {W : World} {ok : Nat → Prop} {xs : List Int} {us : List Value} (h : Els (El (Kd.int .i64) W ok) xs us) : us = xs.map (Value.int .i64) := by
 induction h with
 | nil => rfl
 | cons h0 _ ih =>
  have e : [_] = [_] := Kd.FK_now h0
  injection e with e
  rw [List.map_cons, ← ih, e]
theorem cloneIR_calls (W : World) (A : Option Addr) (n c : Nat) (t : Tp) (h : Sl W A c t) (hn : t.length ≤ 1000000) (e : n = t.length) :
  Calls Tryz.prog 44 #[.slice A n c] W fun e w' => ∃ A' c', e = .returned (.slice A' t.length c') ∧ Handed1 W w' A' c' t := by
 subst e
 obtain ⟨us, hE, hl, hA, hc⟩ := rows_out rfl (Kd.C_F (Kd.heap_int .i64) h.C)
 refine (clI_calls W A t.length c us hl hA hc (els_one hE) (by omega) (by unfold maxLen; omega)).mono ?_
 rintro e w' ⟨v, rfl, ho, hb⟩
 rw [els_ints hE] at ho
 obtain ⟨A', c', rfl⟩ := own_slice ho
 exact ⟨A', c', rfl, hb, ho⟩
theorem Handed1.sl {W w' : World} {A : Option Addr} {c : Nat} {x : Tp} (h : Handed1 W w' A c x) : Sl w' A c x := by
 obtain ⟨A', c', e, hle, hF⟩ := rows_in (d := Kd.int .i64) (ok := fun _ => False) rfl h.2 (Els.of (by simp) fun i hi hu => by rw [List.getElem_map]; exact fun W' _ => rfl) rfl
 injection e with e1 e2 e3
 subst e1 e3
 exact ⟨Kd.F_now hF, hle⟩
def WalkR (fp : Nat → Prop) (J Jx : List Tp → World → Prop) (W : World) (pre L : List Tp) (e : Ending) (W' : World) : Prop :=
 (e = .returned (.bool true) ∧ J (pre ++ L) W' ∧ KpF fp W W') ∨ (e = .returned (.bool false) ∧ ∃ q, q <+: L ∧ Jx (pre ++ q) W')
theorem walk_child {Q : Tp → Prop} {F : Fence} {fp : Nat → Prop} {J Jx : List Tp → World → Prop} {xs : List Tp} {o : Tp} {p : Tp → Bool} {k i : Nat} {ts : List Tp} {kids : List BT} {ps : List Nat} {Ws W : World} {f : Nat} {u v : Value} (hik : i < kids.length) (hip : i < ps.length) (hOk : (BT.mk ts kids).Ok) (hUp : Up o (BT.mk ts kids).io) (hp : ∀ x y, x ∈ (BT.mk ts kids).io → y ∈ (BT.mk ts kids).io → Lt o x y → p y = true → p x = true) (hlen : ∀ a ∈ (BT.mk ts kids).io, Q a) (hle : (BT.mk ts kids).io.length ≤ 1024) (hsz : SizeOf.sizeOf (BT.mk ts kids) < k + 1) (hk : ∀ (i : Nat) (h : i < kids.length) (h' : i < ps.length), NodeF fp W ps[i] kids[i]) (hKs : KpF fp Ws W)
  (ih : ∀ (T : BT) (hsz : SizeOf.sizeOf T < k) (n : Nat) (b : Nat) (pre : List Tp) (W : World), NodeF fp W b T → T.Ok → Up o T.io → (∀ x y, x ∈ T.io → y ∈ T.io → Lt o x y → p y = true → p x = true) → (∀ a ∈ T.io, Q a) → T.io.length ≤ 1024 → KpF fp Ws W → J pre W → pre ++ sel p T.io <+: xs → CallsIn F n Tryz.prog f #[.pointer (some ⟨b, 0, none⟩), u, v] W (WalkR fp J Jx W pre (sel p T.io))) :
  ∀ n pre w1, KpF fp W w1 → J pre w1 → pre ++ sel p (kids[i]).io <+: xs → CallsIn F n Tryz.prog f #[.pointer (some ⟨ps[i], 0, none⟩), u, v] w1 (WalkR fp J Jx w1 pre (sel p (kids[i]).io)) := by
 intro n pre w1 hK hJ hpre
 have hu2 := Up.kid hOk hUp i hik
 have hs : SizeOf.sizeOf (kids[i]) < SizeOf.sizeOf (BT.mk ts kids) := by
  have := List.sizeOf_lt_of_mem (List.getElem_mem hik)
  simp only [BT.mk.sizeOf_spec]; omega
 have hkl : (kids[i]).io.length ≤ (BT.mk ts kids).io.length := by
  have h1 := front_pre (kidl ts kids) ts i (kidl_len hOk)
  have hl := kidl_len hOk
  rcases ((BT.ok_mk ts kids).1 hOk).1 with e | e
  ·simp [e] at hik
  ·rw [BT.io_mk, weave_at (kids.map BT.io) ts i (by simpa using e) (by omega)]
   have eg : (kids.map BT.io)[i]?.getD [] = (kids[i]).io := by simp [hik]
   rw [eg]; simp; omega
 exact ih _ (by omega) n _ pre w1 ((hk i hik hip).step hK.same) (((BT.ok_mk ts kids).1 hOk).2 _ (List.getElem_mem _)) hu2.1 (fun x y hx hy => hp x y (hu2.2 x hx) (hu2.2 y hy)) (fun a ha => hlen a (hu2.2 a ha)) (by omega) (hKs.trans hK) hJ hpre
theorem walk_beside {F : Fence} {fp : Nat → Prop} {J Jx : List Tp → World → Prop} {xs : List Tp} {W w1 : World} {f b pb c0 m : Nat} {u v : Value} {A0 : Option Addr} {L : List Tp} {ad : Addr} {i : Nat} {x : Tp} {pre : List Tp} (h : ∀ n pre w1, KpF fp W w1 → J pre w1 → pre ++ L <+: xs → CallsIn F n Tryz.prog f #[.pointer (some ⟨pb, 0, none⟩), u, v] w1 (WalkR fp J Jx w1 pre L)) (hK : KpF fp W w1) (hJ : J pre w1) (hpre : pre ++ L <+: xs)
  (hb : fp b) (h0 : W.cell? ⟨b, 0, none⟩ = some (.slice A0 m c0)) (hT : ∀ w', KpF fp W w' → ∃ Ai ci, w'.cell? (ad.add i) = some (.slice Ai x.length ci) ∧ Sl w' Ai ci x) (n : Nat) :
  CallsIn F n Tryz.prog f #[.pointer (some ⟨pb, 0, none⟩), u, v] w1 fun e w2 => (e = .returned (.bool true) ∧ J (pre ++ L) w2 ∧ KpF fp W w2 ∧ w2.cell? ⟨b, 0, none⟩ = some (.slice A0 m c0) ∧ ∃ Ai ci, w2.cell? (ad.add i) = some (.slice Ai x.length ci) ∧ Sl w2 Ai ci x) ∨ (e = .returned (.bool false) ∧ ∃ q, q <+: L ∧ Jx (pre ++ q) w2) := by
 refine (h n pre w1 hK hJ hpre).mono ?_
 rintro e w2 (⟨rfl, hJ2, hk2⟩ | h2)
 ·exact .inl ⟨rfl, hJ2, hK.trans hk2, (hK.trans hk2).cell hb h0, hT _ (hK.trans hk2)⟩
 ·exact .inr h2
theorem walk_beside0 {F : Fence} {fp : Nat → Prop} {J Jx : List Tp → World → Prop} {xs : List Tp} {W w1 : World} {f b pb c0 m : Nat} {u v : Value} {A0 : Option Addr} {L : List Tp} {pre : List Tp} (h : ∀ n pre w1, KpF fp W w1 → J pre w1 → pre ++ L <+: xs → CallsIn F n Tryz.prog f #[.pointer (some ⟨pb, 0, none⟩), u, v] w1 (WalkR fp J Jx w1 pre L)) (hK : KpF fp W w1) (hJ : J pre w1) (hpre : pre ++ L <+: xs)
  (hb : fp b) (h0 : W.cell? ⟨b, 0, none⟩ = some (.slice A0 m c0)) (n : Nat) :
  CallsIn F n Tryz.prog f #[.pointer (some ⟨pb, 0, none⟩), u, v] w1 fun e w2 => (e = .returned (.bool true) ∧ J (pre ++ L) w2 ∧ KpF fp W w2 ∧ w2.cell? ⟨b, 0, none⟩ = some (.slice A0 m c0)) ∨ (e = .returned (.bool false) ∧ ∃ q, q <+: L ∧ Jx (pre ++ q) w2) := by
 refine (h n pre w1 hK hJ hpre).mono ?_
 rintro e w2 (⟨rfl, hJ2, hk2⟩ | h2)
 ·exact .inl ⟨rfl, hJ2, hK.trans hk2, (hK.trans hk2).cell hb h0⟩
 ·exact .inr h2
end Go.Proofs.YtcmllllbmgcnlaaGreat.Tup
end
section
namespace Go.Proofs.YtcmllllbmgcnlaaGreat.Tup
open Go.RowKit Go.Lib Go.Shelf Go.Proofs.YtcmllllbmgcnlaaGreat.G Go.Proofs.YtcmllllbmgcnlaaGreatW.PrintWords Go.Proofs.YtcmllllbmgcnlaaGreatW.PrintLast Go.Proofs.YtcmllllbmgcnlaaGreatW.PrintMore
set_option linter.unusedVariables false
set_option linter.unusedSimpArgs false
attribute [local go_sem] Oper.semAt_some
set_option maxRecDepth 100000 in
set_option maxHeartbeats 4000000 in
theorem walkA_in (F : Fence) (hd : F.depth = none) (hF : ∀ f, F.fn f) (hro : F.round = none) (l : Nat) (fp : Nat → Prop) (J Jx : List Tp → World → Prop) (xs : List Tp) (o : Tp) (p : Tp → Bool) (Ws : World) (Q : Tp → Prop) (hQ : ∀ a, Q a → a.length ≤ 1000)
  (hcl : ∀ n W A c t, Sl W A c t → t.length ≤ 1000000 → CallsIn F n Tryz.prog 44 #[.slice A t.length c] W fun e w' => ∃ A' c', e = .returned (.slice A' t.length c') ∧ Handed1 W w' A' c' t)
  (hbl : ∀ n W A c t, KpF fp Ws W → Q t → Sl W A c t → CallsIn F n Tryz.prog 80 #[.slice A t.length c] W fun e w' => e = .returned (.bool (p t)) ∧ Below W.heap.size W w')
  (hJ : ∀ s W W', J s W → Below W.heap.size W W' → J s W') (hR : Rounds F Tryz.prog l J Jx fp xs) (k : Nat) :
  ∀ (T : BT) (hsz : SizeOf.sizeOf T < k) (n : Nat) (b : Nat) (pre : List Tp) (W : World), NodeF fp W b T → T.Ok → Up o T.io → (∀ x y, x ∈ T.io → y ∈ T.io → Lt o x y → p y = true → p x = true) → (∀ a ∈ T.io, Q a) → T.io.length ≤ 1024 → KpF fp Ws W → J pre W → pre ++ sel p T.io <+: xs →
   CallsIn F n Tryz.prog 76 #[.pointer (some ⟨b, 0, none⟩), .func (.func 80) #[] #[], .func (.yield l) #[] #[]] W (WalkR fp J Jx W pre (sel p T.io)) := by
 induction k with
 | zero => intro T hsz; omega
 | succ k ih =>
  intro T hsz n b pre W hNd hOk hUp hp hlen hle hKs hJ0 hpre
  have hdd : ∀ k : Nat, (F.depth.isSome = true → 1 ≤ k) := fun k h => by rw [hd] at h; cases h
  cases hNd with
  | mk b A0 c0 A1 c1 ts kids ps hokb h0 h1 hc0 hc1 hl hT hN hk =>
   obtain ⟨m, hmm⟩ : ∃ m, m = ts.length := ⟨_, rfl⟩
   obtain ⟨q, hqq⟩ : ∃ q, q = ps.length := ⟨_, rfl⟩
   have hm : m ≤ 1024 := by
    have := weave_len (kids.map BT.io) ts (io_ts hOk)
    rw [← BT.io_mk] at this
    omega
   rw [← hmm] at h0 hc0
   rw [← hqq] at h1 hc1
   have hw1 : IntKind.i64.wrap ((m : Int) + 1) = (m : Int) + 1 := by rw [IntKind.wrap_i64]; omega
   have HKL := Aside0.mk (kidl_len hOk)
   have HKS := Aside0.mk hKs
   clear hKs
   have HT := Aside0.mk hT
   have HN := Aside0.mk hN
   have HK := Aside0.mk hk
   have H0 := Aside0.mk h0
   have H1 := Aside0.mk h1
   have HP := Aside0.mk hp
   have HUP := Aside0.mk hUp
   have HOK := Aside0.mk hOk
   have HLE := Aside0.mk hlen
   have HPRE := Aside0.mk hpre
   have HMM := Aside0.mk hmm
   have HQQ := Aside0.mk hqq
   have HLL := Aside0.mk hl
   have HSZ := Aside0.mk hsz
   have HLN := Aside0.mk hle
   have HOKB := Aside0.mk hokb
   have HB := Aside0.mk (fun x y h a b => hJ x y h a b)
   clear hT hN hk hp hUp hlen hpre hmm hqq hl hsz hle hOk hokb
   refine callsIn_of_wp Tryz.func76 rfl (hF _) ?_ hro
   simp only [Tryz.ntmps76, List.size_toArray, List.length_cons, List.length_nil, Nat.reduceAdd, Nat.reduceSub, Array.replicate_succ, Array.replicate_zero, List.push_toArray, List.append_toArray, List.nil_append, List.cons_append]
   gi_wp2
   gi_loopw [14] (fun v14 wr => ∃ i : Nat, i ≤ m + 1 ∧ v14 = .int .i64 i ∧ Aside0 (J (pre ++ sel p (front (kidl ts kids) ts i)) wr) ∧ Aside0 (KpF fp W wr))
    (fun v14 _ => m + 1 - (intOf v14).toNat)
   case atStart => exact ⟨0, Nat.zero_le _, rfl, ⟨by rw [front_zero]; simpa [sel] using hJ0⟩, ⟨KpF.refl _ _⟩⟩
   case round =>
    obtain ⟨i, hi, rfl, HJ, HKP⟩ := hrel
    by_cases hE : i = m + 1
    ·subst hE
     have HF := Aside0.mk (show sel p (front (kidl ts kids) ts (m + 1)) = sel p (BT.mk ts kids).io by rw [HMM.out, front_all _ _ HKL.out, kidl_io])
     gi_wp2
     go_ret
     exact .inl ⟨rfl, by rw [← HF.out]; exact HJ.out, HKP.out⟩
    ·have hi2 : i ≤ m := by omega
     have hi3 : (i : Int) < (m : Int) + 1 := by omega
     have hi4 : (0 : Int) ≤ (i : Int) := by omega
     have hwi : IntKind.i64.wrap ((i : Int) + 1) = (i : Int) + 1 := by rw [IntKind.wrap_i64]; omega
     have h0r : wr.cell? ⟨b, 0, none⟩ = some (.slice A0 m c0) := HKP.out.cell HOKB.out H0.out
     have h1r : wr.cell? ⟨b, 1, none⟩ = some (.slice A1 q c1) := HKP.out.cell HOKB.out H1.out
     clear h0 h1 hi hE
     by_cases hin : i < m
     ·have hin2 : (i : Int) < (m : Int) := by omega
      have hsi : i < ts.length := by have := HMM.out; omega
      obtain ⟨ad, Ai, ci, rfl, hcell, sl⟩ := tup_at (Kd.F_now (Kd.F_step HT.out HKP.out.same)) i hsi
      obtain ⟨x, hx⟩ : ∃ x, x = ts[i] := ⟨_, rfl⟩
      rw [← hx] at hcell sl
      have HX := Aside0.mk (show ts[i]?.getD [] = x by rw [hx]; simp [hsi])
      have HFS := Aside0.mk (front_succ (kidl ts kids) ts i HKL.out hsi)
      have HXM := Aside0.mk (show x ∈ (BT.mk ts kids).io from by rw [hx, BT.io_mk]; exact weave_mem_ts _ _ (io_ts HOK.out) _ (List.getElem_mem _))
      clear hx
      by_cases hpx : p x = true
      ·have hblx := hbl (n - 1) wr Ai ci x (HKS.out.trans HKP.out) (HLE.out x HXM.out) sl
       rw [hpx] at hblx
       have HN1 := Aside0.mk (below_all HOK.out HUP.out HP.out i hsi (by rw [HX.out]; exact hpx))
       have HN0 := Aside0.mk (show sel p (front (kidl ts kids) ts i) = [] from by
        have h := HN1.out
        rw [HFS.out, sel_append] at h
        exact (List.append_eq_nil_iff.1 h).1)
       gi_wp2_with (first
        | ((try refine ⟨hdd _, ?_⟩); gi_at_call 80; refine hblx.mono ?_; clear hblx; rintro e w1 ⟨rfl, hb1⟩))
       go_roundw
       case rel => exact ⟨i + 1, by omega, by simp, ⟨by rw [HN1.out, ← HN0.out]; exact HB.out _ _ _ HJ.out hb1⟩, ⟨HKP.out.trans (KpF.below hb1)⟩⟩
       case measure => simp [intOf]; omega
      ·have hpx2 : p x = false := by simpa using hpx
       have hblx := hbl (n - 1) wr Ai ci x (HKS.out.trans HKP.out) (HLE.out x HXM.out) sl
       rw [hpx2] at hblx
       have hxl : x.length ≤ 1000000 := by have := hQ x (HLE.out x HXM.out); omega
       have HXL := Aside0.mk hxl
       clear hxl
       have HNX := Aside0.mk (show pre ++ sel p (front (kidl ts kids) ts (i + 1)) <+: xs from
        (List.prefix_append_right_inj pre |>.2 (sel_prefix p (by rw [← kidl_io]; exact front_pre _ _ _ HKL.out (by omega)))).trans HPRE.out)
       have HSX := Aside0.mk (sel_yes p x hpx2)
       rcases Nat.eq_zero_or_pos q with hq | hq
       ·subst hq
        have hkd : kids = [] := List.length_eq_zero_iff.1 (by have := HLL.out; have := HQQ.out; omega)
        have HFF := Aside0.mk (show sel p (front (kidl ts kids) ts (i + 1)) = sel p (front (kidl ts kids) ts i) ++ [x] from by
         rw [HFS.out, HX.out, sel_append, hkd, kidl_leaf, List.nil_append, HSX.out])
        clear hkd
        gi_wp2_with (first
         | ((try refine ⟨hdd _, ?_⟩); gi_at_call 80; refine hblx.mono ?_; clear hblx; rintro e w1 ⟨rfl, hb1⟩; have h0a := pw_cell_below hb1 h0r; have h1a := pw_cell_below hb1 h1r; have hca := pw_cell_below hb1 hcell; have hsl1 := sl.below hb1; have hJ1 := HB.out _ _ _ HJ.out hb1; have HB1 := Aside0.mk hb1; clear hb1)
         | ((try refine ⟨hdd _, ?_⟩); gi_at_call 44; refine (hcl _ w1 Ai ci x hsl1 HXL.out).mono ?_; rintro e w2 ⟨A2, c2, rfl, hh⟩; obtain ⟨fn, tmps, assign, body, hy, hRo⟩ := hR (n - 1) _ x A2 c2 w1 w2 hJ1 (by rw [List.append_assoc, ← HFF.out]; exact HNX.out) hh; have HH := Aside0.mk hh; clear hh)
         | ((try refine ⟨hdd _, ?_⟩); refine hRo.mono ?_; clear hRo; rintro e w3 (⟨rfl, hJ3, hk3⟩ | ⟨rfl, hx3⟩)))
        ·refine ⟨⟨i + 1, by omega, by simp, ⟨by rw [HFF.out, ← List.append_assoc]; exact hJ3⟩, ⟨((HKP.out.trans (KpF.below HB1.out)).trans (KpF.below HH.out.1)).trans hk3⟩⟩, by simp [intOf]; omega⟩
        ·go_ret
         exact .inr ⟨rfl, sel p (front (kidl ts kids) ts (i + 1)), sel_prefix p (by rw [← kidl_io]; exact front_pre _ _ _ HKL.out (by omega)), by rw [HFF.out, ← List.append_assoc]; exact hx3⟩
       ·have hip : i < ps.length := by
         have h1 := HLL.out
         have h2 := HQQ.out
         have h3 := HMM.out
         rcases ((BT.ok_mk ts kids).1 HOK.out).1 with e | e
         ·rw [e] at h1; simp only [List.length_nil] at h1; omega
         ·omega
        have hik : i < kids.length := by have := HLL.out; omega
        have hiq : (i : Int) < (q : Int) := by have := HQQ.out; omega
        have hqp : (q : Int) > 0 := by omega
        obtain ⟨ad1, rfl, hcel1⟩ := nod_at (Kd.F_now (Kd.F_step HN.out HKP.out.same)) i hip
        have HCH := Aside0.mk (walk_child hik hip HOK.out HUP.out HP.out HLE.out HLN.out HSZ.out HK.out HKS.out ih)
        obtain ⟨pb, hpb⟩ : ∃ pb, pb = ps[i] := ⟨_, rfl⟩
        obtain ⟨K0, hK0⟩ : ∃ K0, K0 = kids[i] := ⟨_, rfl⟩
        rw [← hpb] at hcel1 HCH
        rw [← hK0] at HCH
        have HFF := Aside0.mk (show sel p (front (kidl ts kids) ts (i + 1)) = sel p (front (kidl ts kids) ts i) ++ (sel p K0.io ++ [x]) from by
         rw [HFS.out, HX.out, sel_append, kidl_kid i hik, ← hK0, sel_append, HSX.out])
        have HTX := Aside0.mk (show ∀ w', KpF fp W w' → ∃ Ai ci, w'.cell? (ad.add i) = some (.slice Ai x.length ci) ∧ Sl w' Ai ci x from fun w' hk => by
         obtain ⟨ad', Ai', ci', e, hc', sl'⟩ := tup_at (Kd.F_now (Kd.F_step HT.out hk.same)) i hsi
         have e' := Option.some.inj e
         subst e'
         have hxe : ts[i] = x := by have := HX.out; simpa [hsi] using this
         rw [hxe] at hc' sl'
         exact ⟨Ai', ci', hc', sl'⟩)
        clear hpb hK0 hip hik
        gi_wp2_with (first
         | ((try refine ⟨hdd _, ?_⟩); gi_at_call 80; refine hblx.mono ?_; clear hblx; rintro e w1 ⟨rfl, hb1⟩; have h0a := pw_cell_below hb1 h0r; have h1a := pw_cell_below hb1 h1r; have hce1 := pw_cell_below hb1 hcel1; have hJ1 := HB.out _ _ _ HJ.out hb1; have HK1 := Aside0.mk (HKP.out.trans (KpF.below hb1)); clear hb1; have hch := walk_beside HCH.out HK1.out hJ1 (by rw [List.append_assoc]; exact (List.prefix_append_right_inj pre |>.2 (by rw [HFF.out, ← List.append_assoc]; exact List.prefix_append _ _)).trans HNX.out) HOKB.out H0.out HTX.out (n - 1))
         | ((try refine ⟨hdd _, ?_⟩); gi_at_call 76; refine hch.mono ?_; clear hch; rintro e w2 (⟨rfl, hJ2, hk2, h0b, Ai2, ci2, hca2, hsl2⟩ | ⟨rfl, q', hq', hx2⟩))
         | ((try refine ⟨hdd _, ?_⟩); gi_at_call 44; refine (hcl _ w2 Ai2 ci2 x hsl2 HXL.out).mono ?_; rintro e w4 ⟨A4, c4, rfl, hh⟩; obtain ⟨fn, tmps, assign, body, hy, hRo⟩ := hR (n - 1) _ x A4 c4 w2 w4 hJ2 (by have h := HNX.out; rw [HFF.out] at h; simpa [List.append_assoc] using h) hh; have HH := Aside0.mk hh; clear hh)
         | ((try refine ⟨hdd _, ?_⟩); refine hRo.mono ?_; clear hRo; rintro e w3 (⟨rfl, hJ3, hk3⟩ | ⟨rfl, hx3⟩)))
        ·refine ⟨⟨i + 1, by omega, by simp, ⟨by have h := hJ3; rw [HFF.out]; simpa [List.append_assoc] using h⟩, ⟨(hk2.trans (KpF.below HH.out.1)).trans hk3⟩⟩, by simp [intOf]; omega⟩
        ·go_ret
         exact .inr ⟨rfl, sel p (front (kidl ts kids) ts (i + 1)), sel_prefix p (by rw [← kidl_io]; exact front_pre _ _ _ HKL.out (by omega)), by have h := hx3; rw [HFF.out]; simpa [List.append_assoc] using h⟩
        ·go_ret
         refine .inr ⟨rfl, sel p (front (kidl ts kids) ts i) ++ q', ?_, by rw [← List.append_assoc]; exact hx2⟩
         refine List.IsPrefix.trans ?_ (sel_prefix p (show front (kidl ts kids) ts (i + 1) <+: (BT.mk ts kids).io by rw [← kidl_io]; exact front_pre _ _ _ HKL.out (by omega)))
         rw [HFF.out]
         exact List.prefix_append_right_inj _ |>.2 (hq'.trans (List.prefix_append _ _))
     ·obtain rfl : i = m := by omega
      have HFL := Aside0.mk (show front (kidl ts kids) ts (i + 1) = front (kidl ts kids) ts i ++ ((kidl ts kids)[i]?.getD []) by have := front_last (kidl ts kids) ts HKL.out; rw [← HMM.out] at this; exact this)
      have HFA := Aside0.mk (show sel p (front (kidl ts kids) ts (i + 1)) = sel p (BT.mk ts kids).io by rw [HMM.out, front_all _ _ HKL.out, kidl_io])
      rcases Nat.eq_zero_or_pos q with hq | hq
      ·subst hq
       have hkd : kids = [] := List.length_eq_zero_iff.1 (by have := HLL.out; have := HQQ.out; omega)
       have HFF := Aside0.mk (show sel p (front (kidl ts kids) ts (i + 1)) = sel p (front (kidl ts kids) ts i) from by
        rw [HFL.out, hkd, kidl_leaf, List.append_nil])
       clear hkd
       gi_wp2
       refine ⟨⟨i + 1, by omega, by simp, ⟨by rw [HFF.out]; exact HJ.out⟩, HKP⟩, by simp [intOf]⟩
      ·have hip : i < ps.length := by
        have h1 := HLL.out
        have h2 := HQQ.out
        have h3 := HMM.out
        rcases ((BT.ok_mk ts kids).1 HOK.out).1 with e | e
        ·rw [e] at h1; simp only [List.length_nil] at h1; omega
        ·omega
       have hik : i < kids.length := by have := HLL.out; omega
       have hiq : (i : Int) < (q : Int) := by have := HQQ.out; omega
       have hqp : (q : Int) > 0 := by omega
       obtain ⟨ad1, rfl, hcel1⟩ := nod_at (Kd.F_now (Kd.F_step HN.out HKP.out.same)) i hip
       have HCH := Aside0.mk (walk_child hik hip HOK.out HUP.out HP.out HLE.out HLN.out HSZ.out HK.out HKS.out ih)
       obtain ⟨pb, hpb⟩ : ∃ pb, pb = ps[i] := ⟨_, rfl⟩
       obtain ⟨K0, hK0⟩ : ∃ K0, K0 = kids[i] := ⟨_, rfl⟩
       rw [← hpb] at hcel1 HCH
       rw [← hK0] at HCH
       have HFF := Aside0.mk (show sel p (front (kidl ts kids) ts (i + 1)) = sel p (front (kidl ts kids) ts i) ++ sel p K0.io from by
        rw [HFL.out, sel_append, kidl_kid i hik, ← hK0])
       have hch := walk_beside0 HCH.out HKP.out HJ.out (by have h := HPRE.out; rw [← HFA.out, HFF.out] at h; simpa [List.append_assoc] using h) HOKB.out H0.out (n - 1)
       clear hpb hK0 hip hik
       gi_wp2_with (first
        | ((try refine ⟨hdd _, ?_⟩); gi_at_call 76; refine hch.mono ?_; clear hch; rintro e w2 (⟨rfl, hJ2, hk2, h0b⟩ | ⟨rfl, q', hq', hx2⟩)))
       ·refine ⟨⟨i + 1, by omega, by simp, ⟨by rw [HFF.out, ← List.append_assoc]; exact hJ2⟩, ⟨hk2⟩⟩, by simp [intOf]⟩
       ·go_ret
        refine .inr ⟨rfl, sel p (front (kidl ts kids) ts i) ++ q', ?_, by rw [← List.append_assoc]; exact hx2⟩
        rw [← HFA.out, HFF.out]
        exact List.prefix_append_right_inj _ |>.2 hq'
theorem abides_none {B : Nat} {J : List Tp → World → Prop} (h : AbidesFrom B J) : ∀ s W W', J s W → Below W.heap.size W W' → J s W' :=
 fun s W W' hs hb => h s W W' none hs ⟨hb.os, hb.tape, hb.output, hb.size, fun k hk _ => hb.block k hk⟩ (fun r e => by cases e)
theorem clone_wide : ∀ n W A c t, Sl W A c t → t.length ≤ 1000000 → CallsIn Fence.wide n Tryz.prog 44 #[.slice A t.length c] W fun e w' => ∃ A' c', e = .returned (.slice A' t.length c') ∧ Handed1 W w' A' c' t :=
 fun n W A c t h hl => callsIn_wide.2 (cloneIR_calls W A _ c t h hl rfl)
set_option maxHeartbeats 1000000 in
theorem belowA_calls (W : World) (v : Value) : Calls Tryz.prog 80 #[v] W fun e w' => e = .returned (.bool false) ∧ Below W.heap.size W w' := by
 go_enter Tryz.func80, Tryz.ntmps80
 go_wp2
 go_ret
 exact ⟨rfl, Below.refl _ _⟩
set_option maxRecDepth 100000 in
set_option maxHeartbeats 1000000 in
theorem all1_in (F : Fence) (hd : F.depth = none) (hF : ∀ f, F.fn f) (hro : F.round = none) (l : Nat) (fp : Nat → Prop) (J Jx : List Tp → World → Prop) (L : List Tp) (W : World) (Bs bs rt : Nat) (hBs : W.cell? ⟨Bs, 0, none⟩ = some (.pointer (some ⟨bs, 0, none⟩))) (h0 : W.cell? ⟨bs, 0, none⟩ = some (.bool true)) (h2 : W.cell? ⟨bs, 2, none⟩ = some (.pointer (some ⟨rt, 0, none⟩)))
  (hok : ∀ n W, W.cell? ⟨bs, 0, none⟩ = some (.bool true) → CallsIn F n Tryz.prog 64 #[.pointer (some ⟨bs, 0, none⟩)] W fun e w' => e = .returned (.bool true) ∧ W = w')
  (hw : ∀ n, CallsIn F n Tryz.prog 76 #[.pointer (some ⟨rt, 0, none⟩), .func (.func 80) #[] #[], .func (.yield l) #[] #[]] W (WalkR fp J Jx W [] L)) (n : Nat) :
  CallsIn F n Tryz.prog 79 #[.func (.yield l) #[] #[], .pointer (some ⟨Bs, 0, none⟩)] W fun e W' => (∃ v, e = .returned v) ∧ (J L W' ∨ ∃ pre, pre <+: L ∧ Jx pre W') := by
 have hdd : ∀ k : Nat, (F.depth.isSome = true → 1 ≤ k) := fun k h => by rw [hd] at h; cases h
 refine callsIn_of_wp Tryz.func79 rfl (hF _) ?_ hro
 simp only [Tryz.ntmps79, List.size_toArray, List.length_cons, List.length_nil, Nat.reduceAdd, Nat.reduceSub, Array.replicate_succ, Array.replicate_zero, List.push_toArray, List.append_toArray, List.nil_append, List.cons_append]
 gi_wp2_with (first
  | ((try refine ⟨hdd _, ?_⟩); gi_at_call 64; refine (hok _ W h0).mono ?_; rintro e w1 ⟨rfl, rfl⟩)
  | ((try refine ⟨hdd _, ?_⟩); gi_at_call 76; refine (hw _).mono ?_; clear hw; rintro e w2 (⟨rfl, hJ2, hk2⟩ | ⟨rfl, q', hq', hx2⟩)))
 ·go_end0
  exact ⟨⟨_, rfl⟩, .inl (by simpa using hJ2)⟩
 ·go_end0
  exact ⟨⟨_, rfl⟩, .inr ⟨q', hq', by simpa using hx2⟩⟩
theorem all_seq {ok fp : Nat → Prop} (w : World) (Bs bs : Nat) {A : Option Addr} {c : Nat} {o : Tp} {rt : Nat} {T : BT} (h : SetAt ok w bs A c o rt T) (hfp : ∀ k, ok k → fp k) (hBs : w.cell? ⟨Bs, 0, none⟩ = some (.pointer (some ⟨bs, 0, none⟩))) :
  SeqR Fence.wide Tryz.prog 79 #[.pointer (some ⟨Bs, 0, none⟩)] fp T.io w := by
 intro l J Jx W hW hJ hJx hR h0 n
 have hs := h.since ⟨hW⟩
 refine (all1_in Fence.wide rfl (fun _ => trivial) rfl l (Priv fp W.heap.size W.heap.size) (J W.heap.size) (Jx W.heap.size) T.io W Bs bs rt (pw_cell_below hW hBs) hs.c0 hs.c2 (fun n W h => callsIn_wide.2 (ok_calls W bs h)) (fun n => ?_) n).mono (fun e w' h => ⟨h.1, _, Nat.le_refl _, h.2⟩)
 have := walkA_in Fence.wide rfl (fun _ => trivial) rfl l (Priv fp W.heap.size W.heap.size) (J W.heap.size) (Jx W.heap.size) T.io o (fun _ => false) W (fun a => a.length ≤ 1000) (fun _ h => h) clone_wide (fun n W A c t _ _ _ => callsIn_wide.2 (belowA_calls W _)) (abides_none (hJ _ (Nat.le_refl _))) (hR _ (Nat.le_refl _)) _ T (Nat.lt_succ_self _) n rt [] W (hs.nd.mono fun k hk => .inl (hfp k hk)) hs.wf hs.up (fun _ _ _ _ _ h => h) (fun a ha => by have := (hs.fit a ha).1; have := hs.rto.1; omega) hs.le (KpF.refl _ _) (h0 W (Below.refl _ _)) (by rw [sel_false]; exact List.prefix_refl _)
 rwa [sel_false] at this
set_option maxHeartbeats 1000000 in
theorem all_calls (W : World) (p : Value) (hp : ∃ a, p = .pointer a) : Calls Tryz.prog 51 #[p] W fun e w' => e = .returned (.func (.func 79) #[] #[.pointer (some ⟨W.heap.size, 0, none⟩)]) ∧ w' = W.alloc (.cells #[p] 99) := by
 obtain ⟨a, rfl⟩ := hp
 go_enter Tryz.func51, Tryz.ntmps51
 go_wp2
 go_ret
 exact ⟨rfl, rfl⟩
end Go.Proofs.YtcmllllbmgcnlaaGreat.Tup
end
section
namespace Go.Proofs.YtcmllllbmgcnlaaGreat.Tup
open Go.RowKit Go.Lib Go.Shelf Go.Proofs.YtcmllllbmgcnlaaGreat.G Go.Proofs.YtcmllllbmgcnlaaGreatW.PrintWords Go.Proofs.YtcmllllbmgcnlaaGreatW.PrintLast Go.Proofs.YtcmllllbmgcnlaaGreatW.PrintMore
set_option linter.unusedVariables false
set_option linter.unusedSimpArgs false
theorem sl_at {W : World} {A : Option Addr} {c : Nat} {l : List Int} (h : Sl W A c l) (i : Int) (h0 : 0 ≤ i) (h1 : i < (l.length : Int)) :
  ∃ ad, A = some ad ∧ W.cell? (ad.add i.toNat) = some (.int .i64 (rd l i)) := by
 obtain ⟨ad, cs, e, hl, hK, hc⟩ := Kd.C_get h.C (0 : Int) i h0 h1
 have hK' : cs = [Value.int .i64 (l.getD i.toNat 0)] := hK
 refine ⟨ad, e, ?_⟩
 have := hc 0 _ (by rw [hK']; rfl)
 simpa [Kd.int, Kd.scalar, rd] using this
def pR (o : Tp) (k : Int) (key x : Tp) : Bool := decide (cmpL (o.take k.toNat) x key < 0)
set_option maxHeartbeats 2000000 in
set_option maxRecDepth 100000 in
theorem belowR_calls (W : World) (B5 B3 B2 : Nat) (Ao : Option Addr) (co : Nat) (o : Tp) (k : Int) (Ak : Option Addr) (ck : Nat) (key : Tp) (c5 : W.cell? ⟨B5, 0, none⟩ = some (.slice Ao o.length co)) (c3 : W.cell? ⟨B3, 0, none⟩ = some (.int .i64 k)) (c2 : W.cell? ⟨B2, 0, none⟩ = some (.slice Ak key.length ck)) (so : Sl W Ao co o) (sk : Sl W Ak ck key) (rto : Rt o) (hk : key.length = o.length) (A : Option Addr) (c : Nat) (x : Tp) (sx : Sl W A c x) (hx : x.length = o.length) :
  Calls Tryz.prog 75 #[.slice A x.length c, .pointer (some ⟨B5, 0, none⟩), .pointer (some ⟨B3, 0, none⟩), .pointer (some ⟨B2, 0, none⟩)] W fun e w' => e = .returned (.bool (pR o k key x)) ∧ Below W.heap.size W w' := by
 obtain ⟨n, hn⟩ : ∃ n, n = o.length := ⟨_, rfl⟩
 obtain ⟨K, hK⟩ : ∃ K, K = min k.toNat n := ⟨_, rfl⟩
 have hmm : max (min k (n : Int)) 0 = (K : Int) := by omega
 have hKn : K ≤ n := by omega
 have hKc : K ≤ co := by have := so.le; omega
 have e1 : o.take k.toNat = o.take K := by
  by_cases h : k.toNat ≤ n
  ·rw [hK, Nat.min_eq_left h]
  ·rw [hK, Nat.min_eq_right (by omega), List.take_of_length_le (by omega), List.take_of_length_le (by omega)]
 have HP : Aside0 (pR o k key x = decide (cmpL (o.take K) x key < 0)) := ⟨by rw [pR, e1]⟩
 have HSO := Aside0.mk so
 have HSK := Aside0.mk sk
 have HSX := Aside0.mk sx
 have HRT := Aside0.mk rto
 have HN := Aside0.mk hn
 have hn8 : n ≤ 8 := by have := rto.1; omega
 have HL : Aside0 (key.length = n ∧ x.length = n) := ⟨by omega, by omega⟩
 rw [hk] at c2
 rw [hx]
 rw [← hn] at c5 c2 ⊢
 clear so sk sx rto hn hk hx e1 hK
 rcases Int.lt_or_le k 0 with hk | hk
 ·obtain rfl : K = 0 := by omega
  have HX := Aside0.mk (show decide (cmpL (o.take 0) x key < 0) = false from rfl)
  go_enter Tryz.func75, Tryz.ntmps75
  go_wp2
  go_loopg [16] 0 (fun gk v16 w' => v16 = .int .i64 0 ∧ Aside0 (Since W w'))
  case atStart => exact ⟨rfl, ⟨Since.refl W⟩⟩
  case round =>
   obtain ⟨rfl, HS⟩ := hrel
   go_wp2
   go_ret
   exact ⟨by rw [HP.out, HX.out]; rfl, HS.out.b⟩
 ·rcases Nat.lt_or_ge n k.toNat with hk2 | hk2
  ·have hkn : ¬ k < (n : Int) := by omega
   obtain rfl : n = K := by omega
   go_enter Tryz.func75, Tryz.ntmps75
   go_wp2
   go_loopg [16] (n) (fun gk v16 w' => ∃ j : Nat, v16 = .int .i64 (j : Int) ∧ Aside0 (j + gk = n) ∧ Aside0 (cmpL (o.take (n)) x key = cmpL ((o.take (n)).drop j) x key) ∧ Aside0 (Since W w'))
   case atStart => exact ⟨0, rfl, ⟨by omega⟩, ⟨by rw [List.drop_zero]⟩, ⟨Since.refl W⟩⟩
   case round =>
    obtain ⟨j, rfl, HJ, HE, HS⟩ := hrel
    by_cases hj : j < n
    ·have hjo : j < o.length := by have := HN.out; omega
     obtain ⟨ad0, rfl, hc0⟩ := sl_at (HS.out.sl HSO.out) (j : Int) (by omega) (by omega)
     have hr0 := HRT.out.2.1 (o[j]) (List.getElem_mem _)
     have hro : rd o (j : Int) = o[j] := by simp [rd, hjo]
     obtain ⟨q, hq⟩ : ∃ q, q = rd o (j : Int) := ⟨_, rfl⟩
     rw [← hq] at hc0 hro
     rw [← hro] at hr0
     have hq0 : 0 ≤ q := hr0.1
     have hqn : q < (n : Int) := by have := HN.out; omega
     obtain ⟨adx, rfl, hcx⟩ := sl_at (HS.out.sl HSX.out) q hq0 (by have := HL.out; omega)
     obtain ⟨adk, rfl, hck⟩ := sl_at (HS.out.sl HSK.out) q hq0 (by have := HL.out; omega)
     have hd : (o.take (n)).drop j = q :: (o.take (n)).drop (j + 1) := by
      rw [List.drop_eq_getElem_cons (by simp; omega), List.getElem_take, ← hro]
     have HEE := Aside0.mk (HE.out.trans (by rw [hd]; rfl : _ = (if rd x q < rd key q then -1 else if rd x q > rd key q then 1 else cmpL ((o.take (n)).drop (j + 1)) x key)))
     have h5 := pw_cell_below HS.out.b c5
     have h2 := pw_cell_below HS.out.b c2
     have hjt : ((j : Int)).toNat = j := by omega
     rw [hjt] at hc0
     have hj1 : (j : Int) < ((n : Nat) : Int) := by omega
     clear hr0 hro hq hd hjo
     obtain ⟨a, ha⟩ : ∃ a, a = rd x q := ⟨_, rfl⟩
     obtain ⟨b, hb⟩ : ∃ b, b = rd key q := ⟨_, rfl⟩
     rw [← ha, ← hb] at HEE
     rw [← ha] at hcx
     rw [← hb] at hck
     clear ha hb
     by_cases hab : a = b
     ·subst hab
      have HX := Aside0.mk (HEE.out.trans (by simp : _ = cmpL ((o.take (n)).drop (j + 1)) x key))
      go_wp2
      go_quiet (fail)
      go_wp2
      obtain ⟨g2, hg2⟩ : ∃ g2, g2 = gk - 1 := ⟨_, rfl⟩
      go_roundg g2
      case measure => have := HJ.out; omega
      case rel => exact ⟨j + 1, by go_num, ⟨by have := HJ.out; omega⟩, HX, ⟨HS.out.drewN _⟩⟩
     ·have hab2 : (a == b) = false := beq_eq_false_iff_ne.2 hab
      have HX := Aside0.mk (show decide (cmpL (o.take (n)) x key < 0) = decide (a < b) from by
       rw [HEE.out]
       by_cases h : a < b
       ·simp [h]
       ·rw [if_neg h, if_pos (by omega)]; simp; omega)
      clear HEE
      go_wp2
      go_quiet (fail)
      go_wp2
      go_quiet (fail)
      go_wp2
      go_ret
      exact ⟨by rw [HP.out, HX.out]; rfl, (((HS.out.drewN _).drewN _).b)⟩
    ·obtain rfl : j = n := by have := HJ.out; omega
     have HX := Aside0.mk (show decide (cmpL (o.take (j)) x key < 0) = false from by
      rw [HE.out, List.drop_of_length_le (by simp; omega)]; rfl)
     go_wp2
     go_ret
     exact ⟨by rw [HP.out, HX.out]; rfl, HS.out.b⟩
  ·obtain rfl : k = (K : Int) := by omega
   have hKN : (K : Int) ≤ (n : Int) := by omega
   go_enter Tryz.func75, Tryz.ntmps75
   go_wp2
   go_loopg [16] (K) (fun gk v16 w' => ∃ j : Nat, v16 = .int .i64 (j : Int) ∧ Aside0 (j + gk = K) ∧ Aside0 (cmpL (o.take (K)) x key = cmpL ((o.take (K)).drop j) x key) ∧ Aside0 (Since W w'))
   case atStart => exact ⟨0, rfl, ⟨by omega⟩, ⟨by rw [List.drop_zero]⟩, ⟨Since.refl W⟩⟩
   case round =>
    obtain ⟨j, rfl, HJ, HE, HS⟩ := hrel
    by_cases hj : j < K
    ·have hjo : j < o.length := by have := HN.out; omega
     obtain ⟨ad0, rfl, hc0⟩ := sl_at (HS.out.sl HSO.out) (j : Int) (by omega) (by omega)
     have hr0 := HRT.out.2.1 (o[j]) (List.getElem_mem _)
     have hro : rd o (j : Int) = o[j] := by simp [rd, hjo]
     obtain ⟨q, hq⟩ : ∃ q, q = rd o (j : Int) := ⟨_, rfl⟩
     rw [← hq] at hc0 hro
     rw [← hro] at hr0
     have hq0 : 0 ≤ q := hr0.1
     have hqn : q < (n : Int) := by have := HN.out; omega
     obtain ⟨adx, rfl, hcx⟩ := sl_at (HS.out.sl HSX.out) q hq0 (by have := HL.out; omega)
     obtain ⟨adk, rfl, hck⟩ := sl_at (HS.out.sl HSK.out) q hq0 (by have := HL.out; omega)
     have hd : (o.take (K)).drop j = q :: (o.take (K)).drop (j + 1) := by
      rw [List.drop_eq_getElem_cons (by simp; omega), List.getElem_take, ← hro]
     have HEE := Aside0.mk (HE.out.trans (by rw [hd]; rfl : _ = (if rd x q < rd key q then -1 else if rd x q > rd key q then 1 else cmpL ((o.take (K)).drop (j + 1)) x key)))
     have h5 := pw_cell_below HS.out.b c5
     have h2 := pw_cell_below HS.out.b c2
     have hjt : ((j : Int)).toNat = j := by omega
     rw [hjt] at hc0
     have hj1 : (j : Int) < ((K : Nat) : Int) := by omega
     clear hr0 hro hq hd hjo
     obtain ⟨a, ha⟩ : ∃ a, a = rd x q := ⟨_, rfl⟩
     obtain ⟨b, hb⟩ : ∃ b, b = rd key q := ⟨_, rfl⟩
     rw [← ha, ← hb] at HEE
     rw [← ha] at hcx
     rw [← hb] at hck
     clear ha hb
     by_cases hab : a = b
     ·subst hab
      have HX := Aside0.mk (HEE.out.trans (by simp : _ = cmpL ((o.take (K)).drop (j + 1)) x key))
      go_wp2
      go_quiet (fail)
      go_wp2
      obtain ⟨g2, hg2⟩ : ∃ g2, g2 = gk - 1 := ⟨_, rfl⟩
      go_roundg g2
      case measure => have := HJ.out; omega
      case rel => exact ⟨j + 1, by go_num, ⟨by have := HJ.out; omega⟩, HX, ⟨HS.out.drewN _⟩⟩
     ·have hab2 : (a == b) = false := beq_eq_false_iff_ne.2 hab
      have HX := Aside0.mk (show decide (cmpL (o.take (K)) x key < 0) = decide (a < b) from by
       rw [HEE.out]
       by_cases h : a < b
       ·simp [h]
       ·rw [if_neg h, if_pos (by omega)]; simp; omega)
      clear HEE
      go_wp2
      go_quiet (fail)
      go_wp2
      go_quiet (fail)
      go_wp2
      go_ret
      exact ⟨by rw [HP.out, HX.out]; rfl, (((HS.out.drewN _).drewN _).b)⟩
    ·obtain rfl : j = K := by have := HJ.out; omega
     have HX := Aside0.mk (show decide (cmpL (o.take (j)) x key < 0) = false from by
      rw [HE.out, List.drop_of_length_le (by simp; omega)]; rfl)
     go_wp2
     go_ret
     exact ⟨by rw [HP.out, HX.out]; rfl, HS.out.b⟩
end Go.Proofs.YtcmllllbmgcnlaaGreat.Tup
end
