/- Own texts, joined and cut to what the claim stands on: RlRows, RlRel, RlNot, RlPut, RlPut2. -/
import Derived.Deep.RegionHeld3
import Derived.WideLaws
import Derived.Test.YtcmllllbmgcnlaaGreatU15
import Derived.Test.YtcmllllbmgcnlaaGreatU14
import Derived.Test.YtcmllllbmgcnlaaGreatU17
section
namespace Go.Proofs.YtcmllllbmgcnlaaGreat.Rl
open Go.RowKit Go.Lib Go.Deep Go.Proofs.YtcmllllbmgcnlaaGreat.G Go.Proofs.YtcmllllbmgcnlaaGreat.Tup Go.Proofs.YtcmllllbmgcnlaaGreatW.PrintWords Go.Proofs.YtcmllllbmgcnlaaGreatW.PrintLast Go.Proofs.YtcmllllbmgcnlaaGreatW.PrintMore
set_option linter.unusedVariables false
set_option linter.unusedSimpArgs false
def keys (R : List Row) : List Tp := R.map Prod.fst
theorem lookF_none {R : List Row} {t : Tp} : lookF R t = none ↔ t ∉ keys R := by
 induction R with
 | nil => simp [lookF, keys]
 | cons x R ih =>
  simp only [lookF, keys, List.map_cons, List.mem_cons, not_or] at ih ⊢
  by_cases h : x.1 = t
  ·simp [h]
  ·have h' : ¬ t = x.1 := fun e => h e.symm
   simp [h, h', ih, keys]
theorem lookF_mem {R : List Row} {t : Tp} {n : Int × Int} (h : lookF R t = some n) : (t, n) ∈ R := by
 induction R with
 | nil => simp [lookF] at h
 | cons x R ih =>
  simp only [lookF] at h
  split at h
  ·rename_i hx
   injection h with h
   rw [← h, ← hx]; simp
  ·exact List.mem_cons_of_mem _ (ih h)
theorem lookF_some {R : List Row} {t : Tp} (h : t ∈ keys R) : ∃ n, lookF R t = some n := by
 cases hl : lookF R t with
 | none => exact absurd h (lookF_none.1 hl)
 | some n => exact ⟨n, rfl⟩
theorem mem_keys {R : List Row} {x : Row} (h : x ∈ R) : x.1 ∈ keys R := List.mem_map.2 ⟨x, h, rfl⟩
theorem lookF_at {R : List Row} (hn : (keys R).Nodup) {x : Row} (hx : x ∈ R) : lookF R x.1 = some x.2 := by
 induction R with
 | nil => simp at hx
 | cons y R ih =>
  simp only [keys, List.map_cons, List.nodup_cons] at hn
  rcases List.mem_cons.1 hx with rfl | hx
  ·simp [lookF]
  ·have : ¬ y.1 = x.1 := fun e => hn.1 (e ▸ mem_keys hx)
   simp only [lookF, this, if_false]
   exact ih hn.2 hx
theorem updF_keys {R : List Row} {t : Tp} {n : Int × Int} (h : t ∈ keys R) : keys (updF R t n) = keys R := by
 induction R with
 | nil => simp [keys] at h
 | cons x R ih =>
  simp only [updF]
  by_cases hx : x.1 = t
  ·simp [hx, keys]
  ·have : t ∈ keys R := by
    simp only [keys, List.map_cons, List.mem_cons] at h ⊢
    exact h.resolve_left (fun e => hx e.symm)
   have := ih this
   simp only [hx, if_false, keys, List.map_cons] at this ⊢
   rw [this]
theorem updF_mem {R : List Row} {t : Tp} {n : Int × Int} {x : Row} (h : x ∈ updF R t n) : x = (t, n) ∨ x ∈ R := by
 induction R with
 | nil => simp [updF] at h; exact .inl h
 | cons y R ih =>
  simp only [updF] at h
  split at h
  ·rcases List.mem_cons.1 h with h | h
   ·exact .inl h
   ·exact .inr (List.mem_cons_of_mem _ h)
  ·rcases List.mem_cons.1 h with h | h
   ·rw [h]; simp
   ·rcases ih h with h | h
    ·exact .inl h
    ·exact .inr (List.mem_cons_of_mem _ h)
def insRow (o : Tp) (t : Tp) (n : Int × Int) (R : List Row) : List Row := R.take (idx o (keys R) t) ++ (t, n) :: R.drop (idx o (keys R) t)
theorem insRow_keys (o : Tp) (t : Tp) (n : Int × Int) (R : List Row) : keys (insRow o t n R) = insO o t (keys R) := by
 simp [insRow, insO, keys, List.map_take, List.map_drop]
theorem lookF_append (A B : List Row) (t : Tp) : lookF (A ++ B) t = (lookF A t).or (lookF B t) := by
 induction A with
 | nil => simp [lookF]
 | cons x A ih =>
  simp only [List.cons_append, lookF]
  split
  ·simp
  ·exact ih
theorem lookF_insRow {o t : Tp} {n : Int × Int} {R : List Row} (h : t ∉ keys R) (s : Tp) : lookF (insRow o t n R) s = if s = t then some n else lookF R s := by
 have e : lookF R s = (lookF (R.take (idx o (keys R) t)) s).or (lookF (R.drop (idx o (keys R) t)) s) := by rw [← lookF_append, List.take_append_drop]
 rw [insRow, lookF_append, e]
 simp only [lookF]
 by_cases hs : s = t
 ·subst hs
  have : lookF (R.take (idx o (keys R) s)) s = none := lookF_none.2 fun hm => h (by
   obtain ⟨x, hx, e⟩ := List.mem_map.1 hm
   exact e ▸ mem_keys (List.mem_of_mem_take hx))
  simp [this]
 ·have : ¬ t = s := fun e => hs e.symm
  simp [hs, this]
theorem insRow_mem {o t : Tp} {n : Int × Int} {R : List Row} {x : Row} (h : x ∈ insRow o t n R) : x = (t, n) ∨ x ∈ R := by
 rw [insRow, List.mem_append, List.mem_cons] at h
 rcases h with h | h | h
 ·exact .inr (List.mem_of_mem_take h)
 ·exact .inl h
 ·exact .inr (List.mem_of_mem_drop h)
theorem insRow_len (o t : Tp) (n : Int × Int) (R : List Row) : (insRow o t n R).length = R.length + 1 := by
 simp [insRow]; omega
def plainO (wd : Nat) : Tp := (List.range wd).map fun (i : Nat) => (i : Int)
theorem plainO_len (wd : Nat) : (plainO wd).length = wd := by simp [plainO]
theorem plainO_rt {wd : Nat} (h : wd ≤ 8) : Rt (plainO wd) := by
 refine ⟨by rw [plainO_len]; exact h, fun c hc => ?_, ?_⟩
 ·simp only [plainO, List.mem_map, List.mem_range, List.length_map, List.length_range] at hc ⊢
  obtain ⟨i, hi, rfl⟩ := hc
  omega
 ·unfold plainO
  rw [List.Nodup, List.pairwise_map]
  exact List.nodup_range.imp fun {a b} h e => h (Int.ofNat.inj e)
structure RowsOk (wd : Nat) (R : List Row) : Prop where
 up : Up (plainO wd) (keys R)
 wd : ∀ x ∈ R, x.1.length = wd
 nt : ∀ x ∈ R, rightB x.2.1 = true ∧ rightB x.2.2 = true
 le : R.length ≤ 1024
theorem up_nodup {o : Tp} {L : List Tp} (h : Up o L) : L.Nodup := List.Pairwise.imp (fun {a b} h e => by subst e; exact Lt.irrefl h) h
theorem RowsOk.nodup {wd : Nat} {R : List Row} (h : RowsOk wd R) : (keys R).Nodup := up_nodup h.up
theorem RowsOk.key {wd : Nat} {R : List Row} (h : RowsOk wd R) {t : Tp} (ht : t ∈ keys R) : t.length = wd := by
 obtain ⟨x, hx, rfl⟩ := List.mem_map.1 ht
 exact h.wd x hx
theorem RowsOk.upd {wd : Nat} {R : List Row} (h : RowsOk wd R) {t : Tp} {n : Int × Int} (ht : t ∈ keys R) (h1 : rightB n.1 = true) (h2 : rightB n.2 = true) : RowsOk wd (updF R t n) := by
 refine ⟨by rw [updF_keys ht]; exact h.up, fun x hx => ?_, fun x hx => ?_, ?_⟩
 ·rcases updF_mem hx with rfl | hx
  ·exact h.key ht
  ·exact h.wd x hx
 ·rcases updF_mem hx with rfl | hx
  ·exact ⟨h1, h2⟩
  ·exact h.nt x hx
 ·rw [updF_len]
  obtain ⟨n, hn⟩ := lookF_some ht
  rw [hn]; exact h.le
theorem RowsOk.ins {wd : Nat} (h8 : wd ≤ 8) {R : List Row} (h : RowsOk wd R) {t : Tp} {n : Int × Int} (ht : t ∉ keys R) (hl : t.length = wd) (hle : R.length < 1024) (h1 : rightB n.1 = true) (h2 : rightB n.2 = true) : RowsOk wd (insRow (plainO wd) t n R) := by
 refine ⟨?_, fun x hx => ?_, fun x hx => ?_, by rw [insRow_len]; omega⟩
 ·rw [insRow_keys]
  exact insO_up h.up ⟨by rw [plainO_len]; exact hl, plainO_rt h8⟩ (fun a ha => ⟨by rw [plainO_len]; exact h.key ha, plainO_rt h8⟩) ht
 ·rcases insRow_mem hx with rfl | hx
  ·exact hl
  ·exact h.wd x hx
 ·rcases insRow_mem hx with rfl | hx
  ·exact ⟨h1, h2⟩
  ·exact h.nt x hx
def putAns (wd : Nat) (R : List Row) (t : Tp) : Bool × Int :=
 if t.length ≠ wd then (false, 14) else if t ∈ keys R then (false, 0) else if 1024 ≤ R.length then (false, 18) else (true, 0)
def putTo (wd : Nat) (R : List Row) (t : Tp) (n : Int × Int) : List Row :=
 if t.length ≠ wd then R else match lookF R t with
 | some o => if betterB n.1 n.2 o.1 o.2 then updF R t n else R
 | none => if 1024 ≤ R.length then R else insRow (plainO wd) t n R
theorem MapAt.congr {W : World} {m wd : Nat} {R R' : List Row} (h : MapAt W m wd R) (hl : R.length = R'.length) (hf : ∀ s, lookF R s = lookF R' s) : MapAt W m wd R' := by
 obtain ⟨es, clock, M, h1, h2, h3, h4, h5⟩ := h
 exact ⟨es, clock, M, h1, h2, h3, h4.trans hl, fun t => (h5 t).trans (hf t)⟩
theorem MapAt.step {W W' : World} {m wd : Nat} {R : List Row} (h : MapAt W m wd R) (hm : W'.heap[m]? = W.heap[m]?) : MapAt W' m wd R := by
 obtain ⟨es, clock, M, h1, h2⟩ := h
 exact ⟨es, clock, M, hm.trans h1, h2⟩
theorem MapAt.lt {W : World} {m wd : Nat} {R : List Row} (h : MapAt W m wd R) : m < W.heap.size := by
 obtain ⟨es, clock, M, h1, h2⟩ := h
 exact (Array.getElem?_eq_some_iff.1 h1).1
theorem MapAt.ins {W : World} {m wd : Nat} {R : List Row} {t : Tp} {n : Int × Int} {o : Tp} (h : MapAt W m wd (updF R t n)) (ht : t ∉ keys R) : MapAt W m wd (insRow o t n R) :=
 h.congr (by rw [updF_len, lookF_none.2 ht, insRow_len]; rfl) fun s => by rw [lookF_updF, lookF_insRow ht]
structure KeptS (S : Nat → Prop) (W w' : World) : Prop where
 os : w'.os = W.os
 tape : w'.tape = W.tape
 output : w'.output = W.output
 size : W.heap.size ≤ w'.heap.size
 same : ∀ k, k < W.heap.size → ¬ S k → w'.heap[k]? = W.heap[k]?
theorem KeptS.below {S : Nat → Prop} {W w' : World} (h : Below W.heap.size W w') : KeptS S W w' := ⟨h.os, h.tape, h.output, h.size, fun k hk _ => h.block k hk⟩
theorem KeptS.refl (S : Nat → Prop) (W : World) : KeptS S W W := .below (Below.refl _ _)
theorem KeptS.trans {S : Nat → Prop} {A B C : World} (h : KeptS S A B) (k : KeptS S B C) : KeptS S A C :=
 ⟨k.os.trans h.os, k.tape.trans h.tape, k.output.trans h.output, Nat.le_trans h.size k.size, fun j hj hn => (k.same j (Nat.lt_of_lt_of_le hj h.size) hn).trans (h.same j hj hn)⟩
theorem KeptS.mono {S S' : Nat → Prop} {A B : World} (h : KeptS S A B) (hs : ∀ k, S k → S' k) : KeptS S' A B := ⟨h.os, h.tape, h.output, h.size, fun k hk hn => h.same k hk fun h => hn (hs k h)⟩
theorem KeptS.one {bs : Nat} {W w' : World} (h : Kept1 bs W w') : KeptS (fun k => k = bs) W w' := ⟨h.g.os, h.g.tape, h.g.output, h.g.size, fun k hk hn => h.g.block k hk (fun e => hn (by injection e))⟩
theorem KeptS.put {S : Nat → Prop} (W : World) {m : Nat} (ob : Obj) (hm : S m) : KeptS S W (W.putObj m ob) := ⟨rfl, rfl, rfl, by simp, fun k _ hk => World.putObj_heap_other (fun e => hk (e ▸ hm))⟩
theorem KeptS.below_of {S : Nat → Prop} {W0 W w' : World} (hb : Below W0.heap.size W0 W) (h : KeptS S W w') (hs : ∀ k, k < W0.heap.size → ¬ S k) : Below W0.heap.size W0 w' :=
 ⟨h.os.trans hb.os, h.tape.trans hb.tape, h.output.trans hb.output, Nat.le_trans hb.size h.size, fun k hk => (h.same k (Nat.lt_of_lt_of_le hk hb.size) (hs k hk)).trans (hb.block k hk)⟩
structure OsOk (wd : Nat) (os : List Tp) : Prop where
 w8 : wd ≤ 8
 n : os.length ≤ 1000
 hd : os[0]? = some (plainO wd)
 each : ∀ o ∈ os, Rt o ∧ o.length = wd
theorem OsOk.pos {wd : Nat} {os : List Tp} (h : OsOk wd os) : 0 < os.length := (List.getElem?_eq_some_iff.1 h.hd).1
def SetsAt (ok : Nat → Prop) (W : World) (os : List Tp) (bss : List Nat) (P : Nat → Tp → Prop) : Prop :=
 ∀ j (h1 : j < os.length) (h2 : j < bss.length), ∃ A c rt T, SetAt ok W bss[j] A c os[j] rt T ∧ ∀ t, t ∈ T.io ↔ P j t
structure RelAt (ok : Nat → Prop) (W : World) (br wd : Nat) (os : List Tp) (R : List Row) (m : Nat) (bss : List Nat) : Prop where
 hp : ∃ Ao co As cs, W.heap[br]? = some (.cells #[.bool true, .int .i64 (wd : Int), .slice Ao os.length co, .slice As os.length cs, .map (some m)] 74 (0, 0)) ∧ os.length ≤ co ∧ os.length ≤ cs ∧ Kd.F KT W ok Ao os.length os ∧ Kd.F KN W ok As os.length bss
 hos : OsOk wd os
 hR : RowsOk wd R
 map : MapAt W m wd R
 len : bss.length = os.length
 sets : SetsAt ok W os bss (fun _ t => t ∈ keys R)
 nd : bss.Nodup
 nb : ∀ b ∈ bss, ¬ ok b ∧ b ≠ br ∧ b ≠ m
 nr : ¬ ok br ∧ br ≠ m
 nm : ¬ ok m
section
variable {ok ok' : Nat → Prop} {W W1 : World} {br wd : Nat} {os : List Tp} {R R' : List Row} {m : Nat} {bss : List Nat}
theorem SetsAt.step {P : Nat → Tp → Prop} (h : SetsAt ok W os bss P) (hm : ∀ k, ok k → k < W.heap.size → W1.heap[k]? = W.heap[k]?) (hb : ∀ b ∈ bss, b < W.heap.size → W1.heap[b]? = W.heap[b]?) : SetsAt ok W1 os bss P := fun j h1 h2 => by
 obtain ⟨A, c, rt, T, hS, hT⟩ := h j h1 h2
 exact ⟨A, c, rt, T, hS.step hm (hb _ (List.getElem_mem h2) hS.lt), hT⟩
theorem SetsAt.mono {P : Nat → Tp → Prop} (h : SetsAt ok W os bss P) (hm : ∀ k, ok k → ok' k) (hn : ∀ b ∈ bss, ¬ ok' b) : SetsAt ok' W os bss P := fun j h1 h2 => by
 obtain ⟨A, c, rt, T, hS, hT⟩ := h j h1 h2
 exact ⟨A, c, rt, T, hS.mono hm (hn _ (List.getElem_mem h2)), hT⟩
theorem RelAt.lt (h : RelAt ok W br wd os R m bss) : br < W.heap.size := by
 obtain ⟨Ao, co, As, cs, hp, _⟩ := h.hp
 exact (Array.getElem?_eq_some_iff.1 hp).1
theorem RelAt.blt (h : RelAt ok W br wd os R m bss) : ∀ b ∈ bss, b < W.heap.size := fun b hb => by
 obtain ⟨j, hj, rfl⟩ := List.getElem_of_mem hb
 obtain ⟨A, c, rt, T, hS, _⟩ := h.sets j (by rw [← h.len]; exact hj) hj
 exact hS.lt
theorem RelAt.step (h : RelAt ok W br wd os R m bss) (hm : ∀ k, (ok k ∨ k = br ∨ k = m ∨ k ∈ bss) → k < W.heap.size → W1.heap[k]? = W.heap[k]?) : RelAt ok W1 br wd os R m bss := by
 obtain ⟨Ao, co, As, cs, hp, h1, h2, h3, h4⟩ := h.hp
 exact ⟨⟨Ao, co, As, cs, (hm br (.inr (.inl rfl)) h.lt).trans hp, h1, h2, Kd.F_step h3 fun k hk => hm k (.inl hk), Kd.F_step h4 fun k hk => hm k (.inl hk)⟩, h.hos, h.hR, h.map.step (hm m (.inr (.inr (.inl rfl))) h.map.lt), h.len,
  h.sets.step (fun k hk => hm k (.inl hk)) (fun b hb => hm b (.inr (.inr (.inr hb)))), h.nd, h.nb, h.nr, h.nm⟩
theorem RelAt.below (h : RelAt ok W br wd os R m bss) (hb : Below W.heap.size W W1) : RelAt ok W1 br wd os R m bss := h.step fun k _ hk => hb.block k hk
theorem RelAt.mono (h : RelAt ok W br wd os R m bss) (hm : ∀ k, ok k → ok' k) (hb : ¬ ok' br) (hm' : ¬ ok' m) (hbs : ∀ b ∈ bss, ¬ ok' b) : RelAt ok' W br wd os R m bss := by
 obtain ⟨Ao, co, As, cs, hp, h1, h2, h3, h4⟩ := h.hp
 exact ⟨⟨Ao, co, As, cs, hp, h1, h2, Kd.F_mono h3 hm, Kd.F_mono h4 hm⟩, h.hos, h.hR, h.map, h.len, h.sets.mono hm hbs, h.nd, fun b hb' => ⟨hbs b hb', (h.nb b hb').2⟩, ⟨hb, h.nr.2⟩, hm'⟩
structure Rec (W : World) (br : Nat) (wd : Nat) (Ao : Option Addr) (co : Nat) (As : Option Addr) (cs n m : Nat) : Prop where
 c0 : W.cell? ⟨br, 0, none⟩ = some (.bool true)
 c1 : W.cell? ⟨br, 1, none⟩ = some (.int .i64 (wd : Int))
 c2 : W.cell? ⟨br, 2, none⟩ = some (.slice Ao n co)
 c3 : W.cell? ⟨br, 3, none⟩ = some (.slice As n cs)
 c4 : W.cell? ⟨br, 4, none⟩ = some (.map (some m))
theorem rec_of {Ao : Option Addr} {co : Nat} {As : Option Addr} {cs n : Nat} (hp : W.heap[br]? = some (.cells #[.bool true, .int .i64 (wd : Int), .slice Ao n co, .slice As n cs, .map (some m)] 74 (0, 0))) : Rec W br wd Ao co As cs n m :=
 ⟨(Tup.cell_of_heap hp 0).trans rfl, (Tup.cell_of_heap hp 1).trans rfl, (Tup.cell_of_heap hp 2).trans rfl, (Tup.cell_of_heap hp 3).trans rfl, (Tup.cell_of_heap hp 4).trans rfl⟩
end
set_option maxHeartbeats 1000000 in
set_option maxRecDepth 100000 in
theorem rok_calls (W : World) (br : Nat) (h : W.cell? ⟨br, 0, none⟩ = some (.bool true)) :
  Calls Tryz.prog 38 #[.pointer (some ⟨br, 0, none⟩)] W fun e w' => e = .returned (.bool true) ∧ W = w' := by
 go_enter Tryz.func38, Tryz.ntmps38
 go_wp2
 go_ret
 exact ⟨rfl, rfl⟩
set_option maxHeartbeats 1000000 in
set_option maxRecDepth 100000 in
theorem rwidth_calls (W : World) (br wd : Nat) (h : W.cell? ⟨br, 0, none⟩ = some (.bool true)) (h1 : W.cell? ⟨br, 1, none⟩ = some (.int .i64 (wd : Int))) :
  Calls Tryz.prog 31 #[.pointer (some ⟨br, 0, none⟩)] W fun e w' => e = .returned (.int .i64 (wd : Int)) ∧ W = w' := by
 go_enter Tryz.func31, Tryz.ntmps31
 go_wp2_with (go_at_call 38; refine (rok_calls _ br h).mono ?_; rintro e w' ⟨rfl, rfl⟩)
 go_ret
 exact ⟨rfl, rfl⟩
end Go.Proofs.YtcmllllbmgcnlaaGreat.Rl
end
section
namespace Go.Proofs.YtcmllllbmgcnlaaGreat.Rl
open Go.RowKit Go.Lib Go.Deep Go.Proofs.YtcmllllbmgcnlaaGreat.G Go.Proofs.YtcmllllbmgcnlaaGreat.Tup Go.Proofs.YtcmllllbmgcnlaaGreatW.PrintWords Go.Proofs.YtcmllllbmgcnlaaGreatW.PrintLast Go.Proofs.YtcmllllbmgcnlaaGreatW.PrintMore
set_option linter.unusedVariables false
set_option linter.unusedSimpArgs false
theorem lookF_width {wd : Nat} {R : List Row} (h : RowsOk wd R) {t : Tp} (hl : t.length ≠ wd) : lookF R t = none := lookF_none.2 fun hm => hl (h.key hm)
theorem look_true {W : World} {m wd : Nat} {R : List Row} (h : MapAt W m wd R) (hwd : wd ≤ 8) (t : List Int) (ht : t.length = wd) :
  (Instr.lookup 72 (.map (some m)) (keyV t) true).run Tryz.prog W = .ok (.tuple #[noteOf (lookF R t), .bool (lookF R t).isSome]) W := look_run W h hwd t ht true
set_option maxHeartbeats 4000000 in
set_option maxRecDepth 100000 in
theorem rnote_calls {ok : Nat → Prop} {W : World} {br wd : Nat} {os : List Tp} {R : List Row} {m : Nat} {bss : List Nat} (h : RelAt ok W br wd os R m bss) (At : Option Addr) (ct : Nat) (t : Tp) (st : Sl W At ct t) :
  Calls Tryz.prog 24 #[.pointer (some ⟨br, 0, none⟩), .slice At t.length ct] W fun e w' => e = .returned (.tuple #[noteOf (lookF R t), .bool (lookF R t).isSome]) ∧ Below W.heap.size W w' := by
 obtain ⟨Ao, co, As, cs, hp, _⟩ := h.hp
 have hr := rec_of hp
 have h0 := hr.c0
 have h1 := hr.c1
 have h4 := hr.c4
 by_cases hl : t.length = wd
 ·have hd : ((t.length : Int) == (wd : Int)) = true := by simp [hl]
  have hw8 := h.hos.w8
  have HM := Aside0.mk h.map
  have HS := Aside0.mk st
  obtain ⟨q, hq⟩ : ∃ q, q = noteOf (lookF R t) := ⟨_, rfl⟩
  obtain ⟨b, hb⟩ : ∃ b, b = (lookF R t).isSome := ⟨_, rfl⟩
  have HL := Aside0.mk (fun (w' : World) (hs : Since W w') => (look_true (HM.out.step (hs.b.block _ HM.out.lt)) hw8 t hl))
  rw [← hq, ← hb] at HL ⊢
  have HKP := Aside0.mk (fun (w' : World) (hs : Since W w') => And.intro (pw_cell_below hs.b h4) hs)
  have H8 := Aside0.mk (show t.length ≤ 8 by omega)
  clear h st hp hr hq hb hw8 hl
  go_enter Tryz.func24, Tryz.ntmps24
  go_wp2_with (go_at_call 38; refine (rok_calls _ br h0).mono ?_; rintro e w' ⟨rfl, rfl⟩)
  go_region_held3 (fun w' => w'.cell? ⟨br, 4, none⟩ = some (.map (some m)) ∧ Since W w')
   (exact HKP.out _ (by ((try go_split_ands); first | exact (Since.refl _).drew | assumption | exact Since.trans (by assumption) (by assumption))))
   (first
    | (go_at_call 39; (refine (key_calls _ At ct t (Sl.below HS.out (by go_split_ands; exact Since.b (by assumption))) H8.out).mono ?_); rintro e w' ⟨rfl, hb5⟩; have hs5 := Since.mk hb5; have hlk := HL.out w' (Since.trans (by go_split_ands; assumption) hs5)))
  have hs9 : Since W w' := by go_split_ands; assumption
  have HS9 := Aside0.mk hs9
  clear hs9
  go_wp2
  go_ret2
  exact ⟨rfl, HS9.out.b⟩
 ·have hd : ((t.length : Int) == (wd : Int)) = false := by simp; omega
  rw [lookF_width h.hR hl]
  clear h st hp hr hl
  go_enter Tryz.func24, Tryz.ntmps24
  go_wp2_with (go_at_call 38; refine (rok_calls _ br h0).mono ?_; rintro e w' ⟨rfl, rfl⟩)
  go_ret2
  exact ⟨rfl, Below.refl _ _⟩
set_option maxHeartbeats 1000000 in
set_option maxRecDepth 100000 in
theorem rhas_calls {ok : Nat → Prop} {W : World} {br wd : Nat} {os : List Tp} {R : List Row} {m : Nat} {bss : List Nat} (h : RelAt ok W br wd os R m bss) (At : Option Addr) (ct : Nat) (t : Tp) (st : Sl W At ct t) :
  Calls Tryz.prog 16 #[.pointer (some ⟨br, 0, none⟩), .slice At t.length ct] W fun e w' => e = .returned (.bool (lookF R t).isSome) ∧ Below W.heap.size W w' := by
 have HN := Aside0.mk (rnote_calls h At ct t st)
 clear h st
 go_enter Tryz.func16, Tryz.ntmps16
 go_wp2_with (go_at_call 24; refine HN.out.mono ?_; rintro e w' ⟨rfl, hb⟩; have HB := Aside0.mk hb; clear hb)
 go_ret
 exact ⟨rfl, HB.out⟩
set_option maxHeartbeats 1000000 in
set_option maxRecDepth 100000 in
theorem rlen_calls {ok : Nat → Prop} {W : World} {br wd : Nat} {os : List Tp} {R : List Row} {m : Nat} {bss : List Nat} (h : RelAt ok W br wd os R m bss) :
  Calls Tryz.prog 15 #[.pointer (some ⟨br, 0, none⟩)] W fun e w' => e = .returned (.int .i64 (R.length : Int)) ∧ W = w' := by
 obtain ⟨Ao, co, As, cs, hp, _⟩ := h.hp
 have hr := rec_of hp
 have h0 := hr.c0
 have h4 := hr.c4
 obtain ⟨es, clock, M, hm, hE, _, hl, _⟩ := h.map
 have hes : es.size = R.length := by
  have := congrArg List.length hE
  simpa [hl] using this
 have hlen : ∀ ty, (Builtin.len_ #[72] ty #[.map (some m)]).run Tryz.prog W = .ok (.int .i64 (R.length : Int)) W := fun ty => (run_len_map W _ ty m es clock (by kernel_rfl) hm).trans (by rw [hes]; rfl)
 clear hE hl h hp hr hes hm
 go_enter Tryz.func15, Tryz.ntmps15
 go_wp2_with (go_at_call 38; refine (rok_calls _ br h0).mono ?_; rintro e w' ⟨rfl, rfl⟩)
 go_ret
 exact ⟨rfl, rfl⟩
theorem nodup_le : ∀ (L M : List Tp), L.Nodup → (∀ x ∈ L, x ∈ M) → L.length ≤ M.length
 | [], _, _, _ => by simp
 | a :: L, M, hn, h => by
  rw [List.nodup_cons] at hn
  have ha : a ∈ M := h a (by simp)
  have := nodup_le L (M.erase a) hn.2 fun x hx => (List.mem_erase_of_ne (fun e => hn.1 (by rw [← e]; exact hx))).2 (h x (by simp [hx]))
  rw [List.length_erase_of_mem ha] at this
  have hp := List.length_pos_of_mem ha
  simp only [List.length_cons]; omega
theorem insTo_set {o : Tp} {L : List Tp} {t : Tp} (hl : L.length < 1024) (ht : t.length = o.length) (a : Tp) : a ∈ insTo o L t ↔ (a ∈ L ∨ a = t) := by
 unfold insTo insAns
 by_cases h2 : t ∈ L
 ·simp only [ht, ne_eq, not_true_eq_false, ite_false, h2, ite_true, Bool.false_eq_true]
  exact ⟨.inl, fun h => h.elim id fun e => e ▸ h2⟩
 ·have h3 : ¬ 1024 ≤ L.length := by omega
  simp only [ht, ne_eq, not_true_eq_false, ite_false, h2, h3, ite_true]
  rw [insO_mem]
  exact or_comm
theorem heightF_right {x y : Nat} (h : (heightF x y).2.2 = true) : rightB (heightF x y).1 = true ∧ rightB (heightF x y).2.1 = true := by
 have key : ∀ x, (wholeF x).2 = true → rightB (wholeF x).1 = true := fun x hx => by
  unfold wholeF at hx ⊢
  by_cases hi : inR x = true
  ·rw [if_pos hi]
   obtain ⟨_, h1, h2⟩ := tI_in hi
   simp only [rightB, Bool.and_eq_true, Bool.not_eq_true', decide_eq_false_iff_not]
   exact ⟨by omega, by omega⟩
  ·rw [if_neg hi] at hx; cases hx
 unfold heightF at h ⊢
 by_cases hc : ((wholeF x).2 && (wholeF y).2) = true
 ·rw [if_pos hc]
  rw [Bool.and_eq_true] at hc
  exact ⟨key x hc.1, key y hc.2⟩
 ·rw [if_neg hc] at h; cases h
def putC (wd : Nat) (R : List Row) (t : Tp) (x y : Nat) : List Row × Bool × Int :=
 if t.length ≠ wd then (R, false, 14) else if (heightF x y).2.2 = true then (putTo wd R t ((heightF x y).1, (heightF x y).2.1), putAns wd R t) else (R, false, 1)
def PutR (ok : Nat → Prop) (W : World) (br wd : Nat) (os : List Tp) (m : Nat) (bss : List Nat) (C : List Row × Bool × Int) (e : Ending) (w' : World) : Prop :=
 e = .returned (.tuple #[.bool C.2.1, .int .i64 C.2.2]) ∧ RelAt (Plus ok W.heap.size) w' br wd os C.1 m bss ∧ KeptS (fun k => k = m ∨ k ∈ bss) W w'
theorem RelAt.plus {ok : Nat → Prop} {W W1 : World} {br wd : Nat} {os : List Tp} {R : List Row} {m : Nat} {bss : List Nat} (h : RelAt ok W br wd os R m bss) (hb : Below W.heap.size W W1) : RelAt (Plus ok W.heap.size) W1 br wd os R m bss :=
 (h.below hb).mono (fun _ hk => .inl hk) (fun hk => hk.elim h.nr.1 fun hk => by have := h.lt; omega) (fun hk => hk.elim h.nm fun hk => by have := h.map.lt; omega) (fun b hb hk => hk.elim (h.nb b hb).1 fun hk => by have := h.blt b hb; omega)
set_option maxHeartbeats 4000000 in
set_option maxRecDepth 100000 in
theorem rput_width {ok : Nat → Prop} {W : World} {br wd : Nat} {os : List Tp} {R : List Row} {m : Nat} {bss : List Nat} (h : RelAt ok W br wd os R m bss) (x y : Nat) (At : Option Addr) (ct : Nat) (t : Tp) (hl : t.length ≠ wd) :
  Calls Tryz.prog 13 #[.pointer (some ⟨br, 0, none⟩), .complex .f64 x y, .slice At t.length ct] W (PutR ok W br wd os m bss (R, false, 14)) := by
 obtain ⟨Ao, co, As, cs, hp, _⟩ := h.hp
 have hr := rec_of hp
 have h0 := hr.c0
 have h1 := hr.c1
 have hd : ((t.length : Int) == (wd : Int)) = false := by simp; omega
 have H := Aside0.mk h
 clear h hp hr hl
 go_enter Tryz.func13, Tryz.ntmps13
 go_wp2_with (go_at_call 38; refine (rok_calls _ br h0).mono ?_; rintro e w' ⟨rfl, rfl⟩)
 go_ret2
 exact ⟨rfl, H.out.plus (Below.refl _ _), .refl _ _⟩
set_option maxHeartbeats 4000000 in
set_option maxRecDepth 100000 in
theorem rput_arg {ok : Nat → Prop} {W : World} {br wd : Nat} {os : List Tp} {R : List Row} {m : Nat} {bss : List Nat} (h : RelAt ok W br wd os R m bss) (x y : Nat) (At : Option Addr) (ct : Nat) (t : Tp) (hl : t.length = wd) (hx : (heightF x y).2.2 = false) :
  Calls Tryz.prog 13 #[.pointer (some ⟨br, 0, none⟩), .complex .f64 x y, .slice At t.length ct] W (PutR ok W br wd os m bss (R, false, 1)) := by
 obtain ⟨Ao, co, As, cs, hp, _⟩ := h.hp
 have hr := rec_of hp
 have h0 := hr.c0
 have h1 := hr.c1
 have hd : ((t.length : Int) == (wd : Int)) = true := by simp [hl]
 have H := Aside0.mk h
 have HH := Aside0.mk (height_calls W x y)
 rw [hx] at HH
 obtain ⟨N, hN⟩ : ∃ N, N = heightF x y := ⟨_, rfl⟩
 rw [← hN] at HH
 clear h hp hr hl hx hN
 go_enter Tryz.func13, Tryz.ntmps13
 go_wp2_with (first
  | (go_at_call 38; refine (rok_calls _ br h0).mono ?_; rintro e w' ⟨rfl, rfl⟩)
  | (go_at_call 17; refine HH.out.mono ?_; rintro e w' ⟨rfl, rfl⟩))
 go_ret2
 exact ⟨rfl, H.out.plus (Below.refl _ _), .refl _ _⟩
set_option maxHeartbeats 8000000 in
set_option maxRecDepth 100000 in
theorem rput_worse {ok : Nat → Prop} {W : World} {br wd : Nat} {os : List Tp} {R : List Row} {m : Nat} {bss : List Nat} (h : RelAt ok W br wd os R m bss) (x y : Nat) (At : Option Addr) (ct : Nat) (t : Tp) (st : Sl W At ct t) (hl : t.length = wd) (n1 n2 : Int) (hx : heightF x y = (n1, n2, true)) (o1 o2 : Int) (ho : lookF R t = some (o1, o2)) (hb : betterB n1 n2 o1 o2 = false) :
  Calls Tryz.prog 13 #[.pointer (some ⟨br, 0, none⟩), .complex .f64 x y, .slice At t.length ct] W (PutR ok W br wd os m bss (R, false, 0)) := by
 obtain ⟨Ao, co, As, cs, hp, _⟩ := h.hp
 have hr := rec_of hp
 have h0 := hr.c0
 have h1 := hr.c1
 have h4 := hr.c4
 have hd : ((t.length : Int) == (wd : Int)) = true := by simp [hl]
 have H := Aside0.mk h
 have HS := Aside0.mk st
 have HH := Aside0.mk (height_calls W x y)
 rw [hx] at HH
 have hrt := heightF_right (x := x) (y := y) (by rw [hx])
 rw [hx] at hrt
 have hro := h.hR.nt _ (lookF_mem ho)
 have HBt := Aside0.mk (fun w => better_calls w n1 n2 o1 o2 hrt.1 hrt.2 hro.1 hro.2)
 rw [hb] at HBt
 have H8 := Aside0.mk (show t.length ≤ 8 by have := h.hos.w8; omega)
 have HL := Aside0.mk (fun (w' : World) (hs : Since W w') => (look_true (h.map.step (hs.b.block _ h.map.lt)) h.hos.w8 t hl).trans (by rw [ho]; rfl : _ = Result.ok (.tuple #[.complex .f64 (nf o1) (nf o2), .bool true]) w'))
 have HKP := Aside0.mk (fun (w' : World) (hs : Since W w') => And.intro (pw_cell_below hs.b h4) hs)
 clear h st hp hr hl hx hrt hro hb ho
 go_enter Tryz.func13, Tryz.ntmps13
 go_wp2_with (first
  | (go_at_call 38; refine (rok_calls _ br h0).mono ?_; rintro e w' ⟨rfl, rfl⟩)
  | (go_at_call 17; refine HH.out.mono ?_; rintro e w' ⟨rfl, rfl⟩))
 go_region_held3 (fun w' => w'.cell? ⟨br, 4, none⟩ = some (.map (some m)) ∧ Since W w')
  (exact HKP.out _ (by ((try go_split_ands); first | exact (Since.refl _).drew | assumption | exact Since.trans (by assumption) (by assumption))))
  (first
   | (go_at_call 39; (refine (key_calls _ At ct t (Sl.below HS.out (by go_split_ands; exact Since.b (by assumption))) H8.out).mono ?_); rintro e w' ⟨rfl, hb5⟩; have hs5 := Since.mk hb5; have hlk := HL.out w' (Since.trans (by go_split_ands; assumption) hs5)))
 have hs9 : Since W w' := by go_split_ands; assumption
 have HS9 := Aside0.mk hs9
 clear hs9
 go_wp2_with (go_at_call 40; refine (HBt.out _).mono ?_; rintro e w'' ⟨rfl, rfl⟩)
 go_ret2
 exact ⟨rfl, H.out.plus HS9.out.b, .below HS9.out.b⟩
theorem upd_at {W : World} {m wd : Nat} {R : List Row} (h : MapAt W m wd R) (hwd : wd ≤ 8) (t : List Int) (ht : t.length = wd) (n1 n2 : Int) :
  ∃ ob, (Instr.mapUpdate 72 (.map (some m)) (keyV t) (.complex .f64 (floatOfInt .f64 n1) (floatOfInt .f64 n2))).run Tryz.prog W = .ok () (W.putObj m ob) ∧ MapAt (W.putObj m ob) m wd (updF R t (n1, n2)) := upd_run W h hwd t ht (n1, n2)
theorem RelAt.upd {ok : Nat → Prop} {W W1 : World} {br wd : Nat} {os : List Tp} {R R' : List Row} {m : Nat} {bss : List Nat} (h : RelAt ok W br wd os R m bss) (hk : KeptS (fun k => k = m) W W1) (hM : MapAt W1 m wd R') (hR' : RowsOk wd R') (hs : keys R' = keys R) : RelAt (Plus ok W.heap.size) W1 br wd os R' m bss := by
 have hS : ∀ k, ok k → k < W.heap.size → W1.heap[k]? = W.heap[k]? := fun k hk' hlt => hk.same k hlt (fun e => h.nm (e ▸ hk'))
 obtain ⟨Ao, co, As, cs, hp, h1, h2, h3, h4⟩ := h.hp
 refine ⟨⟨Ao, co, As, cs, (hk.same br h.lt h.nr.2).trans hp, h1, h2, Kd.F_mono (Kd.F_step h3 hS) (fun _ hk => .inl hk), Kd.F_mono (Kd.F_step h4 hS) (fun _ hk => .inl hk)⟩, h.hos, hR', hM, h.len, ?_, h.nd, fun b hb => ⟨fun hk => hk.elim (h.nb b hb).1 fun hk => by have := h.blt b hb; omega, (h.nb b hb).2⟩, ⟨fun hk => hk.elim h.nr.1 fun hk => by have := h.lt; omega, h.nr.2⟩, fun hk => hk.elim h.nm fun hk => by have := h.map.lt; omega⟩
 rw [hs]
 exact (h.sets.step hS (fun b hb hlt => hk.same b hlt (h.nb b hb).2.2)).mono (fun _ hk => .inl hk) (fun b hb hk => hk.elim (h.nb b hb).1 fun hk => by have := h.blt b hb; omega)
set_option maxHeartbeats 8000000 in
set_option maxRecDepth 100000 in
theorem rput_better {ok : Nat → Prop} {W : World} {br wd : Nat} {os : List Tp} {R : List Row} {m : Nat} {bss : List Nat} (h : RelAt ok W br wd os R m bss) (x y : Nat) (At : Option Addr) (ct : Nat) (t : Tp) (st : Sl W At ct t) (hl : t.length = wd) (n1 n2 : Int) (hx : heightF x y = (n1, n2, true)) (o1 o2 : Int) (ho : lookF R t = some (o1, o2)) (hb : betterB n1 n2 o1 o2 = true) :
  Calls Tryz.prog 13 #[.pointer (some ⟨br, 0, none⟩), .complex .f64 x y, .slice At t.length ct] W (PutR ok W br wd os m bss (updF R t (n1, n2), false, 0)) := by
 obtain ⟨Ao, co, As, cs, hp, _⟩ := h.hp
 have hr := rec_of hp
 have h0 := hr.c0
 have h1 := hr.c1
 have h4 := hr.c4
 have hd : ((t.length : Int) == (wd : Int)) = true := by simp [hl]
 have H := Aside0.mk h
 have HS := Aside0.mk st
 have HH := Aside0.mk (height_calls W x y)
 rw [hx] at HH
 have hrt := heightF_right (x := x) (y := y) (by rw [hx])
 rw [hx] at hrt
 have hro := h.hR.nt _ (lookF_mem ho)
 have HBt := Aside0.mk (fun w => better_calls w n1 n2 o1 o2 hrt.1 hrt.2 hro.1 hro.2)
 rw [hb] at HBt
 have H8 := Aside0.mk (show t.length ≤ 8 by have := h.hos.w8; omega)
 have HL := Aside0.mk (fun (w' : World) (hs : Since W w') => (look_true (h.map.step (hs.b.block _ h.map.lt)) h.hos.w8 t hl).trans (by rw [ho]; rfl : _ = Result.ok (.tuple #[.complex .f64 (nf o1) (nf o2), .bool true]) w'))
 have HU := Aside0.mk (fun (w' : World) (hs : Since W w') => upd_at (h.map.step (hs.b.block _ h.map.lt)) h.hos.w8 t hl n1 n2)
 have HKP := Aside0.mk (fun (w' : World) (hs : Since W w') => And.intro (pw_cell_below hs.b h4) hs)
 have HKQ := Aside0.mk (fun (w' : World) (hs : KeptS (fun k => k = m) W w') => And.intro (show w'.cell? ⟨br, 4, none⟩ = some (.map (some m)) from (Tup.cell_of_heap ((hs.same br h.lt h.nr.2).trans hp) 4).trans rfl) hs)
 have HR := Aside0.mk (h.hR.upd (n := (n1, n2)) (mem_keys (lookF_mem ho)) hrt.1 hrt.2)
 have HKy := Aside0.mk (updF_keys (n := (n1, n2)) (mem_keys (lookF_mem ho)))
 clear h st hp hr hl hx hrt hro hb ho
 go_enter Tryz.func13, Tryz.ntmps13
 go_wp2_with (first
  | (go_at_call 38; refine (rok_calls _ br h0).mono ?_; rintro e w' ⟨rfl, rfl⟩)
  | (go_at_call 17; refine HH.out.mono ?_; rintro e w' ⟨rfl, rfl⟩))
 go_region_held3 (fun w' => w'.cell? ⟨br, 4, none⟩ = some (.map (some m)) ∧ Since W w')
  (exact HKP.out _ (by ((try go_split_ands); first | exact (Since.refl _).drew | assumption | exact Since.trans (by assumption) (by assumption))))
  (first
   | (go_at_call 39; (refine (key_calls _ At ct t (Sl.below HS.out (by go_split_ands; exact Since.b (by assumption))) H8.out).mono ?_); rintro e w' ⟨rfl, hb5⟩; have hs5 := Since.mk hb5; have hlk := HL.out w' (Since.trans (by go_split_ands; assumption) hs5)))
 have hs9 : Since W w' := by go_split_ands; assumption
 have HS9 := Aside0.mk hs9
 have HKq := Aside0.mk (HKQ.out _ (KeptS.below (S := fun k => k = m) hs9.drew.b))
 clear hs9
 go_wp2_with (go_at_call 40; refine (HBt.out _).mono ?_; rintro e w'' ⟨rfl, rfl⟩)
 go_region_held3 (fun w2 => w2.cell? ⟨br, 4, none⟩ = some (.map (some m)) ∧ KeptS (fun k => k = m) W w2)
  (first | exact HKq.out | exact HKQ.out _ (KeptS.below (Since.b (by assumption))) | exact HKQ.out _ ((KeptS.below (Since.b (by assumption))).trans (KeptS.put _ _ rfl)))
  (first
   | (go_at_call 39; (refine (key_calls _ At ct t (Sl.below HS.out HS9.out.drew.b) H8.out).mono ?_); rintro e w3 ⟨rfl, hb5⟩; have hs5 : Since W w3 := HS9.out.drew.trans (Since.mk hb5); obtain ⟨ob, hup, hM⟩ := HU.out w3 hs5; have HS5 := Aside0.mk hs5; have HM := Aside0.mk hM; clear hM))
 go_wp2
 go_ret2
 have hk9 : KeptS (fun k => k = m) W (w3.putObj m ob) := (KeptS.below HS5.out.b).trans (KeptS.put _ _ rfl)
 exact ⟨rfl, H.out.upd hk9 HM.out HR.out HKy.out, hk9.mono fun _ h => .inl h⟩
structure NewI (ok : Nat → Prop) (W : World) (os : List Tp) (m wd : Nat) (bss : List Nat) (R : List Row) (R' : List Row) (t : Tp) (i : Nat) (wr : World) : Prop where
 kp : KeptS (fun k => k = m ∨ k ∈ bss) W wr
 map : MapAt wr m wd R'
 sets : SetsAt (Plus ok W.heap.size) wr os bss (fun j s => s ∈ keys R ∨ (j < i ∧ s = t))
section
variable {ok : Nat → Prop} {W W1 : World} {br wd : Nat} {os : List Tp} {R R' : List Row} {m : Nat} {bss : List Nat} {t : Tp} {i : Nat} {wr : World}
theorem NewI.start (h : RelAt ok W br wd os R m bss) (hk : KeptS (fun k => k = m) W W1) (hM : MapAt W1 m wd R') : NewI ok W os m wd bss R R' t 0 W1 := by
 have hS : ∀ k, ok k → k < W.heap.size → W1.heap[k]? = W.heap[k]? := fun k hk' hlt => hk.same k hlt (fun e => h.nm (e ▸ hk'))
 refine ⟨hk.mono fun _ h => .inl h, hM, ?_⟩
 have := (h.sets.step hS (fun b hb hlt => hk.same b hlt (h.nb b hb).2.2)).mono (ok' := Plus ok W.heap.size) (fun _ hk => .inl hk) (fun b hb hk => hk.elim (h.nb b hb).1 fun hk => by have := h.blt b hb; omega)
 intro j h1 h2
 obtain ⟨A, c, rt, T, hS, hT⟩ := this j h1 h2
 exact ⟨A, c, rt, T, hS, fun s => (hT s).trans ⟨.inl, fun h => h.elim id fun h => by omega⟩⟩
theorem NewI.done {n : Int × Int} (h : RelAt ok W br wd os R m bss) (hi : NewI ok W os m wd bss R (insRow (plainO wd) t n R) t os.length wr) (hR : RowsOk wd (insRow (plainO wd) t n R)) : RelAt (Plus ok W.heap.size) wr br wd os (insRow (plainO wd) t n R) m bss := by
 have hS : ∀ k, ok k → k < W.heap.size → wr.heap[k]? = W.heap[k]? := fun k hk' hlt => hi.kp.same k hlt (fun e => e.elim (fun e => h.nm (e ▸ hk')) (fun e => (h.nb k e).1 hk'))
 obtain ⟨Ao, co, As, cs, hp, h1, h2, h3, h4⟩ := h.hp
 refine ⟨⟨Ao, co, As, cs, (hi.kp.same br h.lt (fun e => e.elim h.nr.2 fun e => (h.nb br e).2.1 rfl)).trans hp, h1, h2, Kd.F_mono (Kd.F_step h3 hS) (fun _ hk => .inl hk), Kd.F_mono (Kd.F_step h4 hS) (fun _ hk => .inl hk)⟩, h.hos, hR, hi.map, h.len, ?_, h.nd, fun b hb => ⟨fun hk => hk.elim (h.nb b hb).1 fun hk => by have := h.blt b hb; omega, (h.nb b hb).2⟩, ⟨fun hk => hk.elim h.nr.1 fun hk => by have := h.lt; omega, h.nr.2⟩, fun hk => hk.elim h.nm fun hk => by have := h.map.lt; omega⟩
 intro j h1 h2
 obtain ⟨A, c, rt, T, hS, hT⟩ := hi.sets j h1 h2
 refine ⟨A, c, rt, T, hS, fun s => ?_⟩
 rw [hT s]
 show (s ∈ keys R ∨ (j < os.length ∧ s = t)) ↔ s ∈ keys (insRow (plainO wd) t n R)
 rw [insRow_keys, insO_mem]
 constructor
 ·rintro (h | ⟨_, h⟩)
  ·exact .inr h
  ·exact .inl h
 ·rintro (h | h)
  ·exact .inr ⟨h1, h⟩
  ·exact .inl h
theorem NewI.ins (h : RelAt ok W br wd os R m bss) (hi : NewI ok W os m wd bss R R' t i wr) (hlt : i < os.length) (ht : t.length = wd) (hle : R.length < 1024) (At : Option Addr) (ct : Nat) (st : Sl wr At ct t) :
  ∃ b, bss[i]? = some b ∧ Calls Tryz.prog 41 #[.pointer (some ⟨b, 0, none⟩), .slice At t.length ct] wr fun e w' => (∃ v u, e = .returned (.tuple #[.bool v, .int .i64 u])) ∧ KeptS (fun k => k ∈ bss) wr w' ∧ NewI ok W os m wd bss R R' t (i + 1) w' := by
 have hb : i < bss.length := by rw [h.len]; exact hlt
 obtain ⟨A, c, rt, T, hS, hT⟩ := hi.sets i hlt hb
 have ho := (h.hos.each _ (List.getElem_mem hlt))
 refine ⟨bss[i], List.getElem?_eq_getElem hb, (insert_calls wr bss[i] hS At ct t st (by have := ho.2; have := h.hos.w8; omega)).mono ?_⟩
 rintro e w' ⟨rt', T', rfl, hS', hio, hk⟩
 have hsz := hi.kp.size
 have hne : ∀ j (h2 : j < bss.length), j ≠ i → bss[j] ≠ bss[i] := fun j h2 hj e => hj ((List.getElem_inj h.nd).1 e)
 have hTl : T.io.length < 1024 := Nat.lt_of_le_of_lt (nodup_le _ (keys R) (up_nodup hS.up) (fun x hx => by
  rcases (hT x).1 hx with hx | hx
  ·exact hx
  ·omega)) (by rw [keys, List.length_map]; exact hle)
 have hkS : KeptS (fun k => k ∈ bss) wr w' := (KeptS.one hk).mono fun k e => e ▸ List.getElem_mem hb
 refine ⟨⟨_, _, rfl⟩, hkS, hi.kp.trans (hkS.mono fun k h => .inr h), hi.map.step (hk.g.block m hi.map.lt (fun e => (h.nb _ (List.getElem_mem hb)).2.2 (by injection e with e; exact e.symm))), ?_⟩
 intro j h1 h2
 by_cases hj : j = i
 ·subst hj
  refine ⟨A, c, rt', T', hS'.mono (fun k hk => ?_) (fun hk => hk.elim (h.nb _ (List.getElem_mem hb)).1 fun hk => by have := h.blt _ (List.getElem_mem hb); omega), fun s => ?_⟩
  ·rcases hk with hk | hk
   ·exact hk
   ·exact .inr (by omega)
  ·rw [hio, insTo_set hTl (by rw [ht, ho.2]), hT s]
   constructor
   ·rintro ((h | ⟨h, _⟩) | h)
    ·exact .inl h
    ·omega
    ·exact .inr ⟨by omega, h⟩
   ·rintro (h | ⟨_, h⟩)
    ·exact .inl (.inl h)
    ·exact .inr h
 ·obtain ⟨A2, c2, rt2, T2, hS2, hT2⟩ := hi.sets j h1 h2
  refine ⟨A2, c2, rt2, T2, hS2.step (fun k hk' hlt' => hk.g.block k hlt' (fun e => ?_)) (hk.g.block _ hS2.lt (fun e => hne j h2 hj (by injection e))), fun s => (hT2 s).trans ?_⟩
  ·injection e with e
   exact hS.nok (e ▸ hk')
  ·constructor
   ·rintro (h | ⟨h, h'⟩)
    ·exact .inl h
    ·exact .inr ⟨by omega, h'⟩
   ·rintro (h | ⟨h, h'⟩)
    ·exact .inl h
    ·exact .inr ⟨by omega, h'⟩
end
set_option maxHeartbeats 8000000 in
set_option maxRecDepth 100000 in
theorem rput_full {ok : Nat → Prop} {W : World} {br wd : Nat} {os : List Tp} {R : List Row} {m : Nat} {bss : List Nat} (h : RelAt ok W br wd os R m bss) (x y : Nat) (At : Option Addr) (ct : Nat) (t : Tp) (st : Sl W At ct t) (hl : t.length = wd) (n1 n2 : Int) (hx : heightF x y = (n1, n2, true)) (ho : lookF R t = none) (hle : 1024 ≤ R.length) :
  Calls Tryz.prog 13 #[.pointer (some ⟨br, 0, none⟩), .complex .f64 x y, .slice At t.length ct] W (PutR ok W br wd os m bss (R, false, 18)) := by
 obtain ⟨Ao, co, As, cs, hp, _⟩ := h.hp
 have hr := rec_of hp
 have h0 := hr.c0
 have h1 := hr.c1
 have h4 := hr.c4
 have hd : ((t.length : Int) == (wd : Int)) = true := by simp [hl]
 have H := Aside0.mk h
 have HS := Aside0.mk st
 have HH := Aside0.mk (height_calls W x y)
 rw [hx] at HH
 have H8 := Aside0.mk (show t.length ≤ 8 by have := h.hos.w8; omega)
 obtain ⟨q, hq⟩ : ∃ q, q = R.length := ⟨_, rfl⟩
 have hqd : (1024 : Int) ≤ (q : Int) := by omega
 have HLn := Aside0.mk (fun (w' : World) (hs : Since W w') (ty : TypeId) => show (Builtin.len_ #[72] ty #[.map (some m)]).run Tryz.prog w' = .ok (.int .i64 (q : Int)) w' from by
  obtain ⟨es, clock, M, hm, hE, _, hl, _⟩ := (h.map.step (hs.b.block _ h.map.lt))
  have hes : es.size = R.length := by
   have := congrArg List.length hE
   simpa [hl] using this
  exact (run_len_map w' _ ty m es clock (by kernel_rfl) hm).trans (by rw [hes, hq]; rfl))
 have HL := Aside0.mk (fun (w' : World) (hs : Since W w') => (look_true (h.map.step (hs.b.block _ h.map.lt)) h.hos.w8 t hl).trans (by rw [ho]; rfl : _ = Result.ok (.tuple #[.complex .f64 0 0, .bool false]) w'))
 have HKP := Aside0.mk (fun (w' : World) (hs : Since W w') => And.intro (pw_cell_below hs.b h4) hs)
 clear h st hp hr hl hx ho hq hle
 go_enter Tryz.func13, Tryz.ntmps13
 go_wp2_with (first
  | (go_at_call 38; refine (rok_calls _ br h0).mono ?_; rintro e w' ⟨rfl, rfl⟩)
  | (go_at_call 17; refine HH.out.mono ?_; rintro e w' ⟨rfl, rfl⟩))
 go_region_held3 (fun w' => w'.cell? ⟨br, 4, none⟩ = some (.map (some m)) ∧ Since W w')
  (exact HKP.out _ (by ((try go_split_ands); first | exact (Since.refl _).drew | assumption | exact Since.trans (by assumption) (by assumption))))
  (first
   | (go_at_call 39; (refine (key_calls _ At ct t (Sl.below HS.out (by go_split_ands; exact Since.b (by assumption))) H8.out).mono ?_); rintro e w' ⟨rfl, hb5⟩; have hs5 := Since.mk hb5; have hlk := HL.out w' (Since.trans (by go_split_ands; assumption) hs5)))
 have hs9 : Since W w' := by go_split_ands; assumption
 have c9 := pw_cell_below hs9.b h4
 have hlen := HLn.out w' hs9
 have HS9 := Aside0.mk hs9
 clear hs9
 go_wp2
 go_ret2
 exact ⟨rfl, H.out.plus HS9.out.b, .below HS9.out.b⟩
set_option maxHeartbeats 8000000 in
set_option maxRecDepth 100000 in
theorem rput_new {ok : Nat → Prop} {W : World} {br wd : Nat} {os : List Tp} {R : List Row} {m : Nat} {bss : List Nat} (h : RelAt ok W br wd os R m bss) (x y : Nat) (At : Option Addr) (ct : Nat) (t : Tp) (hst : ∀ w', KeptS (fun k => k = m ∨ k ∈ bss) W w' → Sl w' At ct t) (hl : t.length = wd) (n1 n2 : Int) (hx : heightF x y = (n1, n2, true)) (ho : lookF R t = none) (hle : R.length < 1024) :
  Calls Tryz.prog 13 #[.pointer (some ⟨br, 0, none⟩), .complex .f64 x y, .slice At t.length ct] W (PutR ok W br wd os m bss (insRow (plainO wd) t (n1, n2) R, true, 0)) := by
 obtain ⟨Ao, co, As, cs, hp, hco, hcs, hFo, hFs⟩ := h.hp
 have hr := rec_of hp
 have h0 := hr.c0
 have h1 := hr.c1
 have h4 := hr.c4
 have hd : ((t.length : Int) == (wd : Int)) = true := by simp [hl]
 have H := Aside0.mk h
 have HS := Aside0.mk (hst W (.refl _ _))
 have HH := Aside0.mk (height_calls W x y)
 rw [hx] at HH
 have hrt := heightF_right (x := x) (y := y) (by rw [hx])
 rw [hx] at hrt
 have H8 := Aside0.mk (show t.length ≤ 8 by have := h.hos.w8; omega)
 obtain ⟨q, hq⟩ : ∃ q, q = R.length := ⟨_, rfl⟩
 have hqd : ¬ (1024 : Int) ≤ (q : Int) := by omega
 have HLn := Aside0.mk (fun (w' : World) (hs : Since W w') (ty : TypeId) => show (Builtin.len_ #[72] ty #[.map (some m)]).run Tryz.prog w' = .ok (.int .i64 (q : Int)) w' from by
  obtain ⟨es, clock, M, hm, hE, _, hl, _⟩ := (h.map.step (hs.b.block _ h.map.lt))
  have hes : es.size = R.length := by
   have := congrArg List.length hE
   simpa [hl] using this
  exact (run_len_map w' _ ty m es clock (by kernel_rfl) hm).trans (by rw [hes, hq]; rfl))
 have HL := Aside0.mk (fun (w' : World) (hs : Since W w') => (look_true (h.map.step (hs.b.block _ h.map.lt)) h.hos.w8 t hl).trans (by rw [ho]; rfl : _ = Result.ok (.tuple #[.complex .f64 0 0, .bool false]) w'))
 have HU := Aside0.mk (fun (w' : World) (hs : Since W w') => upd_at (h.map.step (hs.b.block _ h.map.lt)) h.hos.w8 t hl n1 n2)
 have HKP := Aside0.mk (fun (w' : World) (hs : Since W w') => And.intro (pw_cell_below hs.b h4) hs)
 have HKQ := Aside0.mk (fun (w' : World) (hs : KeptS (fun k => k = m) W w') => And.intro (show w'.cell? ⟨br, 4, none⟩ = some (.map (some m)) from (Tup.cell_of_heap ((hs.same br h.lt h.nr.2).trans hp) 4).trans rfl) hs)
 have HR := Aside0.mk (h.hR.ins h.hos.w8 (n := (n1, n2)) (lookF_none.1 ho) hl hle hrt.1 hrt.2)
 have HT := Aside0.mk (And.intro (lookF_none.1 ho) (And.intro hl hle))
 obtain ⟨on, hon⟩ : ∃ on, on = os.length := ⟨_, rfl⟩
 have HON := Aside0.mk hon
 have hon6 : (on : Int) ≤ 1000 := by have := h.hos.n; omega
 have HC3 := Aside0.mk (fun (w' : World) (hs : KeptS (fun k => k = m ∨ k ∈ bss) W w') => show w'.cell? ⟨br, 3, none⟩ = some (.slice As on cs) from (Tup.cell_of_heap ((hs.same br h.lt (fun e => e.elim h.nr.2 fun e => (h.nb br e).2.1 rfl)).trans hp) 3).trans (by rw [hon]; rfl))
 have HCs := Aside0.mk (fun (w' : World) (hs : KeptS (fun k => k = m ∨ k ∈ bss) W w') (i : Nat) (hi : i < on) => show ∃ ad b, As = some ad ∧ bss[i]? = some b ∧ w'.cell? (ad.add i) = some (.pointer (some ⟨b, 0, none⟩)) from by
  have hb : i < bss.length := by rw [h.len, ← hon]; exact hi
  obtain ⟨ad, e, hc⟩ := nod_at (Kd.F_now (Kd.F_step hFs (W1 := w') fun k hk' hlt => hs.same k hlt (fun e => e.elim (fun e => h.nm (e ▸ hk')) (fun e => (h.nb k e).1 hk')))) i hb
  exact ⟨ad, _, e, List.getElem?_eq_getElem hb, hc⟩)
 have HSl := Aside0.mk hst
 clear h hst hp hr hl hx ho hq hle hrt hFo hFs hco hcs hon
 go_enter Tryz.func13, Tryz.ntmps13
 go_wp2_with (first
  | (go_at_call 38; refine (rok_calls _ br h0).mono ?_; rintro e w' ⟨rfl, rfl⟩)
  | (go_at_call 17; refine HH.out.mono ?_; rintro e w' ⟨rfl, rfl⟩))
 go_region_held3 (fun w' => w'.cell? ⟨br, 4, none⟩ = some (.map (some m)) ∧ Since W w')
  (exact HKP.out _ (by ((try go_split_ands); first | exact (Since.refl _).drew | assumption | exact Since.trans (by assumption) (by assumption))))
  (first
   | (go_at_call 39; (refine (key_calls _ At ct t (Sl.below HS.out (by go_split_ands; exact Since.b (by assumption))) H8.out).mono ?_); rintro e w' ⟨rfl, hb5⟩; have hs5 := Since.mk hb5; have hlk := HL.out w' (Since.trans (by go_split_ands; assumption) hs5)))
 have hs9 : Since W w' := by go_split_ands; assumption
 have c9 := pw_cell_below hs9.b h4
 have hlen := HLn.out w' hs9
 have HS9 := Aside0.mk hs9
 have HKq := Aside0.mk (HKQ.out _ (KeptS.below (S := fun k => k = m) hs9.drew.b))
 clear hs9
 go_wp2
 clear hlen c9
 go_region_held3 (fun w2 => w2.cell? ⟨br, 4, none⟩ = some (.map (some m)) ∧ KeptS (fun k => k = m) W w2)
  (first | exact HKq.out | exact HKQ.out _ (KeptS.below (Since.b (by assumption))) | exact HKQ.out _ ((KeptS.below (Since.b (by assumption))).trans (KeptS.put _ _ rfl)))
  (first
   | (go_at_call 39; (refine (key_calls _ At ct t (Sl.below HS.out HS9.out.drew.b) H8.out).mono ?_); rintro e w3 ⟨rfl, hb5⟩; have hs5 : Since W w3 := HS9.out.drew.trans (Since.mk hb5); obtain ⟨ob, hup, hM⟩ := HU.out w3 hs5; have HS5 := Aside0.mk hs5; have HM := Aside0.mk hM; clear hM))
 have hkm : KeptS (fun k => k = m) W (w3.putObj m ob) := (KeptS.below HS5.out.b).trans (KeptS.put _ _ rfl)
 have HN0 := Aside0.mk (NewI.start (R' := insRow (plainO wd) t (n1, n2) R) (t := t) H.out hkm (HM.out.ins HT.out.1))
 obtain ⟨V, hV⟩ : ∃ V, V = w3.putObj m ob := ⟨_, rfl⟩
 rw [← hV] at HN0 ⊢
 have c3 := HC3.out V HN0.out.kp
 clear hkm hV
 go_wp2
 clear c3
 go_loopg [85] on (fun gk v85 wr => ∃ k : Nat, v85 = .int .i64 (k : Int) ∧ Aside0 (k + gk = on) ∧ Aside0 (NewI ok W os m wd bss R (insRow (plainO wd) t (n1, n2) R) t k wr))
 case atStart => exact ⟨0, rfl, ⟨by omega⟩, HN0⟩
 case round =>
  obtain ⟨k, rfl, HK, HI⟩ := hrel
  by_cases hk : k < on
  ·have hkd : decide (k < on) = true := decide_eq_true hk
   have hki : (k : Int) < (on : Int) := by omega
   obtain ⟨ad, b, rfl, hbk, hcb⟩ := HCs.out wr HI.out.kp k hk
   have HIn := Aside0.mk (HI.out.ins H.out (by rw [← HON.out]; exact hk) HT.out.2.1 HT.out.2.2 At ct (HSl.out wr HI.out.kp))
   have HB := Aside0.mk hbk
   clear hbk
   go_wp2_with (go_at_call 41; obtain ⟨b', hb', hcl⟩ := HIn.out; obtain rfl : b = b' := Option.some.inj (HB.out.symm.trans hb'); (with_reducible refine hcl.mono ?_); rintro e w6 ⟨⟨v, u, rfl⟩, _, hN6⟩; have HN6 := Aside0.mk hN6; clear hN6 hcl hb')
   obtain ⟨g2, hg2⟩ : ∃ g2, g2 = gk - 1 := ⟨_, rfl⟩
   go_roundg g2
   case measure => have := HK.out; omega
   case rel => exact ⟨k + 1, by go_num, ⟨by have := HK.out; omega⟩, HN6⟩
  ·have hkd : decide (k < on) = false := decide_eq_false hk
   have hki : ¬ (k : Int) < (on : Int) := by omega
   have hke : k = os.length := by have := HK.out; have := HON.out; omega
   subst hke
   go_wp2
   go_ret2
   exact ⟨rfl, HI.out.done H.out HR.out, HI.out.kp⟩
theorem rput_calls {ok : Nat → Prop} {W : World} {br wd : Nat} {os : List Tp} {R : List Row} {m : Nat} {bss : List Nat} (h : RelAt ok W br wd os R m bss) (x y : Nat) (At : Option Addr) (ct : Nat) (t : Tp) (hst : ∀ w', KeptS (fun k => k = m ∨ k ∈ bss) W w' → Sl w' At ct t) :
  Calls Tryz.prog 13 #[.pointer (some ⟨br, 0, none⟩), .complex .f64 x y, .slice At t.length ct] W (PutR ok W br wd os m bss (putC wd R t x y)) := by
 have st := hst W (.refl _ _)
 by_cases hl : t.length = wd
 ·have hl' : ¬ t.length ≠ wd := fun h => h hl
  cases hx : (heightF x y).2.2 with
  | false =>
   rw [show putC wd R t x y = (R, false, 1) from by simp only [putC, if_neg hl', hx, Bool.false_eq_true, if_false]]
   exact rput_arg h x y At ct t hl hx
  | true =>
   obtain ⟨n1, n2, hn⟩ : ∃ n1 n2, heightF x y = (n1, n2, true) := ⟨(heightF x y).1, (heightF x y).2.1, by rw [← hx]⟩
   have hp : putC wd R t x y = (putTo wd R t (n1, n2), putAns wd R t) := by simp only [putC, if_neg hl', hn, if_true]
   cases ho : lookF R t with
   | some o =>
    obtain ⟨o1, o2⟩ := o
    have ha : putAns wd R t = (false, 0) := by simp only [putAns, if_neg hl', if_pos (mem_keys (lookF_mem ho))]
    cases hb : betterB n1 n2 o1 o2 with
    | false =>
     rw [hp, ha, show putTo wd R t (n1, n2) = R from by simp only [putTo, if_neg hl', ho, hb, Bool.false_eq_true, if_false]]
     exact rput_worse h x y At ct t st hl n1 n2 hn o1 o2 ho hb
    | true =>
     rw [hp, ha, show putTo wd R t (n1, n2) = updF R t (n1, n2) from by simp only [putTo, if_neg hl', ho, hb, if_true]]
     exact rput_better h x y At ct t st hl n1 n2 hn o1 o2 ho hb
   | none =>
    by_cases hle : 1024 ≤ R.length
    ·rw [hp, show putAns wd R t = (false, 18) from by simp only [putAns, if_neg hl', if_neg (lookF_none.1 ho), if_pos hle], show putTo wd R t (n1, n2) = R from by simp only [putTo, if_neg hl', ho, if_pos hle]]
     exact rput_full h x y At ct t st hl n1 n2 hn ho hle
    ·rw [hp, show putAns wd R t = (true, 0) from by simp only [putAns, if_neg hl', if_neg (lookF_none.1 ho), if_neg hle], show putTo wd R t (n1, n2) = insRow (plainO wd) t (n1, n2) R from by simp only [putTo, if_neg hl', ho, if_neg hle]]
     exact rput_new h x y At ct t hst hl n1 n2 hn ho (by omega)
 ·rw [show putC wd R t x y = (R, false, 14) from by simp only [putC, ne_eq, hl, not_false_eq_true, if_true]]
  exact rput_width h x y At ct t hl
end Go.Proofs.YtcmllllbmgcnlaaGreat.Rl
end
