/- Own texts, joined and cut to what the claim stands on: RlRows, RlRel, RlSeq, RlCmp, RlRound. -/
import Derived.Deep.RegionHeld3
import Derived.OrdersIn
import Derived.Test.YtcmllllbmgcnlaaGreatM16
import Derived.Test.YtcmllllbmgcnlaaGreatM15
import Derived.Test.YtcmllllbmgcnlaaGreatM19
import Derived.Test.YtcmllllbmgcnlaaGreatM18
section
namespace Go.Proofs.YtcmllllbmgcnlaaGreat.Rl
open Go.RowKit Go.Lib Go.Deep Go.Proofs.YtcmllllbmgcnlaaGreat.G Go.Proofs.YtcmllllbmgcnlaaGreat.Tup Go.Proofs.YtcmllllbmgcnlaaGreatW.PrintWords Go.Proofs.YtcmllllbmgcnlaaGreatW.PrintLast Go.Proofs.YtcmllllbmgcnlaaGreatW.PrintMore
set_option linter.unusedVariables false
set_option linter.unusedSimpArgs false
def keys (R : List Row) : List Tp := R.map Prod.fst
theorem lookF_none {R : List Row} {t : Tp} : lookF R t = none ↔ t ∉ keys R := by
  induction R with
  | nil => simp [lookF, keys]
  | cons x R ih =>
    simp only [lookF, keys, List.map_cons, List.mem_cons, not_or] at ih ⊢
    by_cases h : x.1 = t
    · simp [h]
    · have h' : ¬ t = x.1 := fun e => h e.symm
      simp [h, h', ih, keys]
theorem lookF_mem {R : List Row} {t : Tp} {n : Int × Int} (h : lookF R t = some n) : (t, n) ∈ R := by
  induction R with
  | nil => simp [lookF] at h
  | cons x R ih =>
    simp only [lookF] at h
    split at h
    · rename_i hx
      injection h with h
      rw [← h, ← hx]; simp
    · exact List.mem_cons_of_mem _ (ih h)
theorem lookF_some {R : List Row} {t : Tp} (h : t ∈ keys R) : ∃ n, lookF R t = some n := by
  cases hl : lookF R t with
  | none => exact absurd h (lookF_none.1 hl)
  | some n => exact ⟨n, rfl⟩
theorem mem_keys {R : List Row} {x : Row} (h : x ∈ R) : x.1 ∈ keys R := List.mem_map.2 ⟨x, h, rfl⟩
theorem lookF_at {R : List Row} (hn : (keys R).Nodup) {x : Row} (hx : x ∈ R) : lookF R x.1 = some x.2 := by
  induction R with
  | nil => simp at hx
  | cons y R ih =>
    simp only [keys, List.map_cons, List.nodup_cons] at hn
    rcases List.mem_cons.1 hx with rfl | hx
    · simp [lookF]
    · have : ¬ y.1 = x.1 := fun e => hn.1 (e ▸ mem_keys hx)
      simp only [lookF, this, if_false]
      exact ih hn.2 hx
theorem updF_keys {R : List Row} {t : Tp} {n : Int × Int} (h : t ∈ keys R) : keys (updF R t n) = keys R := by
  induction R with
  | nil => simp [keys] at h
  | cons x R ih =>
    simp only [updF]
    by_cases hx : x.1 = t
    · simp [hx, keys]
    · have : t ∈ keys R := by
        simp only [keys, List.map_cons, List.mem_cons] at h ⊢
        exact h.resolve_left (fun e => hx e.symm)
      have := ih this
      simp only [hx, if_false, keys, List.map_cons] at this ⊢
      rw [this]
theorem updF_mem {R : List Row} {t : Tp} {n : Int × Int} {x : Row} (h : x ∈ updF R t n) : x = (t, n) ∨ x ∈ R := by
  induction R with
  | nil => simp [updF] at h; exact .inl h
  | cons y R ih =>
    simp only [updF] at h
    split at h
    · rcases List.mem_cons.1 h with h | h
      · exact .inl h
      · exact .inr (List.mem_cons_of_mem _ h)
    · rcases List.mem_cons.1 h with h | h
      · rw [h]; simp
      · rcases ih h with h | h
        · exact .inl h
        · exact .inr (List.mem_cons_of_mem _ h)
def insRow (o : Tp) (t : Tp) (n : Int × Int) (R : List Row) : List Row := R.take (idx o (keys R) t) ++ (t, n) :: R.drop (idx o (keys R) t)
theorem insRow_keys (o : Tp) (t : Tp) (n : Int × Int) (R : List Row) : keys (insRow o t n R) = insO o t (keys R) := by
  simp [insRow, insO, keys, List.map_take, List.map_drop]
theorem lookF_append (A B : List Row) (t : Tp) : lookF (A ++ B) t = (lookF A t).or (lookF B t) := by
  induction A with
  | nil => simp [lookF]
  | cons x A ih =>
    simp only [List.cons_append, lookF]
    split
    · simp
    · exact ih
theorem lookF_insRow {o t : Tp} {n : Int × Int} {R : List Row} (h : t ∉ keys R) (s : Tp) : lookF (insRow o t n R) s = if s = t then some n else lookF R s := by
  have e : lookF R s = (lookF (R.take (idx o (keys R) t)) s).or (lookF (R.drop (idx o (keys R) t)) s) := by rw [← lookF_append, List.take_append_drop]
  rw [insRow, lookF_append, e]
  simp only [lookF]
  by_cases hs : s = t
  · subst hs
    have : lookF (R.take (idx o (keys R) s)) s = none := lookF_none.2 fun hm => h (by
      obtain ⟨x, hx, e⟩ := List.mem_map.1 hm
      exact e ▸ mem_keys (List.mem_of_mem_take hx))
    simp [this]
  · have : ¬ t = s := fun e => hs e.symm
    simp [hs, this]
theorem insRow_mem {o t : Tp} {n : Int × Int} {R : List Row} {x : Row} (h : x ∈ insRow o t n R) : x = (t, n) ∨ x ∈ R := by
  rw [insRow, List.mem_append, List.mem_cons] at h
  rcases h with h | h | h
  · exact .inr (List.mem_of_mem_take h)
  · exact .inl h
  · exact .inr (List.mem_of_mem_drop h)
theorem insRow_len (o t : Tp) (n : Int × Int) (R : List Row) : (insRow o t n R).length = R.length + 1 := by
  simp [insRow]; omega
def plainO (wd : Nat) : Tp := (List.range wd).map fun (i : Nat) => (i : Int)
theorem plainO_len (wd : Nat) : (plainO wd).length = wd := by simp [plainO]
theorem plainO_rt {wd : Nat} (h : wd ≤ 8) : Rt (plainO wd) := by
  refine ⟨by rw [plainO_len]; exact h, fun c hc => ?_, ?_⟩
  · simp only [plainO, List.mem_map, List.mem_range, List.length_map, List.length_range] at hc ⊢
    obtain ⟨i, hi, rfl⟩ := hc
    omega
  · unfold plainO
    rw [List.Nodup, List.pairwise_map]
    exact List.nodup_range.imp fun {a b} h e => h (Int.ofNat.inj e)
structure RowsOk (wd : Nat) (R : List Row) : Prop where
  up : Up (plainO wd) (keys R)
  wd : ∀ x ∈ R, x.1.length = wd
  nt : ∀ x ∈ R, rightB x.2.1 = true ∧ rightB x.2.2 = true
  le : R.length ≤ 1024
theorem up_nodup {o : Tp} {L : List Tp} (h : Up o L) : L.Nodup := List.Pairwise.imp (fun {a b} h e => by subst e; exact Lt.irrefl h) h
theorem RowsOk.nodup {wd : Nat} {R : List Row} (h : RowsOk wd R) : (keys R).Nodup := up_nodup h.up
theorem RowsOk.key {wd : Nat} {R : List Row} (h : RowsOk wd R) {t : Tp} (ht : t ∈ keys R) : t.length = wd := by
  obtain ⟨x, hx, rfl⟩ := List.mem_map.1 ht
  exact h.wd x hx
theorem RowsOk.upd {wd : Nat} {R : List Row} (h : RowsOk wd R) {t : Tp} {n : Int × Int} (ht : t ∈ keys R) (h1 : rightB n.1 = true) (h2 : rightB n.2 = true) : RowsOk wd (updF R t n) := by
  refine ⟨by rw [updF_keys ht]; exact h.up, fun x hx => ?_, fun x hx => ?_, ?_⟩
  · rcases updF_mem hx with rfl | hx
    · exact h.key ht
    · exact h.wd x hx
  · rcases updF_mem hx with rfl | hx
    · exact ⟨h1, h2⟩
    · exact h.nt x hx
  · rw [updF_len]
    obtain ⟨n, hn⟩ := lookF_some ht
    rw [hn]; exact h.le
theorem RowsOk.ins {wd : Nat} (h8 : wd ≤ 8) {R : List Row} (h : RowsOk wd R) {t : Tp} {n : Int × Int} (ht : t ∉ keys R) (hl : t.length = wd) (hle : R.length < 1024) (h1 : rightB n.1 = true) (h2 : rightB n.2 = true) : RowsOk wd (insRow (plainO wd) t n R) := by
  refine ⟨?_, fun x hx => ?_, fun x hx => ?_, by rw [insRow_len]; omega⟩
  · rw [insRow_keys]
    exact insO_up h.up ⟨by rw [plainO_len]; exact hl, plainO_rt h8⟩ (fun a ha => ⟨by rw [plainO_len]; exact h.key ha, plainO_rt h8⟩) ht
  · rcases insRow_mem hx with rfl | hx
    · exact hl
    · exact h.wd x hx
  · rcases insRow_mem hx with rfl | hx
    · exact ⟨h1, h2⟩
    · exact h.nt x hx
def putAns (wd : Nat) (R : List Row) (t : Tp) : Bool × Int :=
  if t.length ≠ wd then (false, 14) else if t ∈ keys R then (false, 0) else if 1024 ≤ R.length then (false, 18) else (true, 0)
def putTo (wd : Nat) (R : List Row) (t : Tp) (n : Int × Int) : List Row :=
  if t.length ≠ wd then R else match lookF R t with
  | some o => if betterB n.1 n.2 o.1 o.2 then updF R t n else R
  | none => if 1024 ≤ R.length then R else insRow (plainO wd) t n R
theorem MapAt.congr {W : World} {m wd : Nat} {R R' : List Row} (h : MapAt W m wd R) (hl : R.length = R'.length) (hf : ∀ s, lookF R s = lookF R' s) : MapAt W m wd R' := by
  obtain ⟨es, clock, M, h1, h2, h3, h4, h5⟩ := h
  exact ⟨es, clock, M, h1, h2, h3, h4.trans hl, fun t => (h5 t).trans (hf t)⟩
theorem MapAt.step {W W' : World} {m wd : Nat} {R : List Row} (h : MapAt W m wd R) (hm : W'.heap[m]? = W.heap[m]?) : MapAt W' m wd R := by
  obtain ⟨es, clock, M, h1, h2⟩ := h
  exact ⟨es, clock, M, hm.trans h1, h2⟩
theorem MapAt.lt {W : World} {m wd : Nat} {R : List Row} (h : MapAt W m wd R) : m < W.heap.size := by
  obtain ⟨es, clock, M, h1, h2⟩ := h
  exact (Array.getElem?_eq_some_iff.1 h1).1
theorem MapAt.ins {W : World} {m wd : Nat} {R : List Row} {t : Tp} {n : Int × Int} {o : Tp} (h : MapAt W m wd (updF R t n)) (ht : t ∉ keys R) : MapAt W m wd (insRow o t n R) :=
  h.congr (by rw [updF_len, lookF_none.2 ht, insRow_len]; rfl) fun s => by rw [lookF_updF, lookF_insRow ht]
structure KeptS (S : Nat → Prop) (W w' : World) : Prop where
  os : w'.os = W.os
  tape : w'.tape = W.tape
  output : w'.output = W.output
  size : W.heap.size ≤ w'.heap.size
  same : ∀ k, k < W.heap.size → ¬ S k → w'.heap[k]? = W.heap[k]?
theorem KeptS.below {S : Nat → Prop} {W w' : World} (h : Below W.heap.size W w') : KeptS S W w' := ⟨h.os, h.tape, h.output, h.size, fun k hk _ => h.block k hk⟩
theorem KeptS.refl (S : Nat → Prop) (W : World) : KeptS S W W := .below (Below.refl _ _)
theorem KeptS.trans {S : Nat → Prop} {A B C : World} (h : KeptS S A B) (k : KeptS S B C) : KeptS S A C :=
  ⟨k.os.trans h.os, k.tape.trans h.tape, k.output.trans h.output, Nat.le_trans h.size k.size, fun j hj hn => (k.same j (Nat.lt_of_lt_of_le hj h.size) hn).trans (h.same j hj hn)⟩
theorem KeptS.mono {S S' : Nat → Prop} {A B : World} (h : KeptS S A B) (hs : ∀ k, S k → S' k) : KeptS S' A B := ⟨h.os, h.tape, h.output, h.size, fun k hk hn => h.same k hk fun h => hn (hs k h)⟩
theorem KeptS.one {bs : Nat} {W w' : World} (h : Kept1 bs W w') : KeptS (fun k => k = bs) W w' := ⟨h.g.os, h.g.tape, h.g.output, h.g.size, fun k hk hn => h.g.block k hk (fun e => hn (by injection e))⟩
theorem KeptS.put {S : Nat → Prop} (W : World) {m : Nat} (ob : Obj) (hm : S m) : KeptS S W (W.putObj m ob) := ⟨rfl, rfl, rfl, by simp, fun k _ hk => World.putObj_heap_other (fun e => hk (e ▸ hm))⟩
theorem KeptS.below_of {S : Nat → Prop} {W0 W w' : World} (hb : Below W0.heap.size W0 W) (h : KeptS S W w') (hs : ∀ k, k < W0.heap.size → ¬ S k) : Below W0.heap.size W0 w' :=
  ⟨h.os.trans hb.os, h.tape.trans hb.tape, h.output.trans hb.output, Nat.le_trans hb.size h.size, fun k hk => (h.same k (Nat.lt_of_lt_of_le hk hb.size) (hs k hk)).trans (hb.block k hk)⟩
end Go.Proofs.YtcmllllbmgcnlaaGreat.Rl
end
section
namespace Go.Proofs.YtcmllllbmgcnlaaGreat.Rl
open Go.RowKit Go.Lib Go.Deep Go.Proofs.YtcmllllbmgcnlaaGreat.G Go.Proofs.YtcmllllbmgcnlaaGreat.Tup Go.Proofs.YtcmllllbmgcnlaaGreatW.PrintWords Go.Proofs.YtcmllllbmgcnlaaGreatW.PrintLast Go.Proofs.YtcmllllbmgcnlaaGreatW.PrintMore
set_option linter.unusedVariables false
set_option linter.unusedSimpArgs false
structure OsOk (wd : Nat) (os : List Tp) : Prop where
  w8 : wd ≤ 8
  n : os.length ≤ 1000
  hd : os[0]? = some (plainO wd)
  each : ∀ o ∈ os, Rt o ∧ o.length = wd
theorem OsOk.pos {wd : Nat} {os : List Tp} (h : OsOk wd os) : 0 < os.length := (List.getElem?_eq_some_iff.1 h.hd).1
def SetsAt (ok : Nat → Prop) (W : World) (os : List Tp) (bss : List Nat) (P : Nat → Tp → Prop) : Prop :=
  ∀ j (h1 : j < os.length) (h2 : j < bss.length), ∃ A c rt T, SetAt ok W bss[j] A c os[j] rt T ∧ ∀ t, t ∈ T.io ↔ P j t
structure RelAt (ok : Nat → Prop) (W : World) (br wd : Nat) (os : List Tp) (R : List Row) (m : Nat) (bss : List Nat) : Prop where
  hp : ∃ Ao co As cs, W.heap[br]? = some (.cells #[.bool true, .int .i64 (wd : Int), .slice Ao os.length co, .slice As os.length cs, .map (some m)] 74 (0, 0)) ∧ os.length ≤ co ∧ os.length ≤ cs ∧ Kd.F KT W ok Ao os.length os ∧ Kd.F KN W ok As os.length bss
  hos : OsOk wd os
  hR : RowsOk wd R
  map : MapAt W m wd R
  len : bss.length = os.length
  sets : SetsAt ok W os bss (fun _ t => t ∈ keys R)
  nd : bss.Nodup
  nb : ∀ b ∈ bss, ¬ ok b ∧ b ≠ br ∧ b ≠ m
  nr : ¬ ok br ∧ br ≠ m
  nm : ¬ ok m
section
variable {ok ok' : Nat → Prop} {W W1 : World} {br wd : Nat} {os : List Tp} {R R' : List Row} {m : Nat} {bss : List Nat}
theorem SetsAt.step {P : Nat → Tp → Prop} (h : SetsAt ok W os bss P) (hm : ∀ k, ok k → k < W.heap.size → W1.heap[k]? = W.heap[k]?) (hb : ∀ b ∈ bss, b < W.heap.size → W1.heap[b]? = W.heap[b]?) : SetsAt ok W1 os bss P := fun j h1 h2 => by
  obtain ⟨A, c, rt, T, hS, hT⟩ := h j h1 h2
  exact ⟨A, c, rt, T, hS.step hm (hb _ (List.getElem_mem h2) hS.lt), hT⟩
theorem SetsAt.mono {P : Nat → Tp → Prop} (h : SetsAt ok W os bss P) (hm : ∀ k, ok k → ok' k) (hn : ∀ b ∈ bss, ¬ ok' b) : SetsAt ok' W os bss P := fun j h1 h2 => by
  obtain ⟨A, c, rt, T, hS, hT⟩ := h j h1 h2
  exact ⟨A, c, rt, T, hS.mono hm (hn _ (List.getElem_mem h2)), hT⟩
theorem RelAt.lt (h : RelAt ok W br wd os R m bss) : br < W.heap.size := by
  obtain ⟨Ao, co, As, cs, hp, _⟩ := h.hp
  exact (Array.getElem?_eq_some_iff.1 hp).1
theorem RelAt.blt (h : RelAt ok W br wd os R m bss) : ∀ b ∈ bss, b < W.heap.size := fun b hb => by
  obtain ⟨j, hj, rfl⟩ := List.getElem_of_mem hb
  obtain ⟨A, c, rt, T, hS, _⟩ := h.sets j (by rw [← h.len]; exact hj) hj
  exact hS.lt
theorem RelAt.step (h : RelAt ok W br wd os R m bss) (hm : ∀ k, (ok k ∨ k = br ∨ k = m ∨ k ∈ bss) → k < W.heap.size → W1.heap[k]? = W.heap[k]?) : RelAt ok W1 br wd os R m bss := by
  obtain ⟨Ao, co, As, cs, hp, h1, h2, h3, h4⟩ := h.hp
  exact ⟨⟨Ao, co, As, cs, (hm br (.inr (.inl rfl)) h.lt).trans hp, h1, h2, Kd.F_step h3 fun k hk => hm k (.inl hk), Kd.F_step h4 fun k hk => hm k (.inl hk)⟩, h.hos, h.hR, h.map.step (hm m (.inr (.inr (.inl rfl))) h.map.lt), h.len,
    h.sets.step (fun k hk => hm k (.inl hk)) (fun b hb => hm b (.inr (.inr (.inr hb)))), h.nd, h.nb, h.nr, h.nm⟩
theorem RelAt.below (h : RelAt ok W br wd os R m bss) (hb : Below W.heap.size W W1) : RelAt ok W1 br wd os R m bss := h.step fun k _ hk => hb.block k hk
theorem RelAt.mono (h : RelAt ok W br wd os R m bss) (hm : ∀ k, ok k → ok' k) (hb : ¬ ok' br) (hm' : ¬ ok' m) (hbs : ∀ b ∈ bss, ¬ ok' b) : RelAt ok' W br wd os R m bss := by
  obtain ⟨Ao, co, As, cs, hp, h1, h2, h3, h4⟩ := h.hp
  exact ⟨⟨Ao, co, As, cs, hp, h1, h2, Kd.F_mono h3 hm, Kd.F_mono h4 hm⟩, h.hos, h.hR, h.map, h.len, h.sets.mono hm hbs, h.nd, fun b hb' => ⟨hbs b hb', (h.nb b hb').2⟩, ⟨hb, h.nr.2⟩, hm'⟩
theorem RelAt.kept {S : Nat → Prop} (h : RelAt ok W br wd os R m bss) (hk : KeptS S W W1) (hs : ∀ k, (ok k ∨ k = br ∨ k = m ∨ k ∈ bss) → k < W.heap.size → ¬ S k) : RelAt ok W1 br wd os R m bss := h.step fun k hk' hlt => hk.same k hlt (hs k hk' hlt)
structure Rec (W : World) (br : Nat) (wd : Nat) (Ao : Option Addr) (co : Nat) (As : Option Addr) (cs n m : Nat) : Prop where
  c0 : W.cell? ⟨br, 0, none⟩ = some (.bool true)
  c1 : W.cell? ⟨br, 1, none⟩ = some (.int .i64 (wd : Int))
  c2 : W.cell? ⟨br, 2, none⟩ = some (.slice Ao n co)
  c3 : W.cell? ⟨br, 3, none⟩ = some (.slice As n cs)
  c4 : W.cell? ⟨br, 4, none⟩ = some (.map (some m))
theorem rec_of {Ao : Option Addr} {co : Nat} {As : Option Addr} {cs n : Nat} (hp : W.heap[br]? = some (.cells #[.bool true, .int .i64 (wd : Int), .slice Ao n co, .slice As n cs, .map (some m)] 74 (0, 0))) : Rec W br wd Ao co As cs n m :=
  ⟨(Tup.cell_of_heap hp 0).trans rfl, (Tup.cell_of_heap hp 1).trans rfl, (Tup.cell_of_heap hp 2).trans rfl, (Tup.cell_of_heap hp 3).trans rfl, (Tup.cell_of_heap hp 4).trans rfl⟩
end
set_option maxHeartbeats 1000000 in
set_option maxRecDepth 100000 in
theorem rok_calls (W : World) (br : Nat) (h : W.cell? ⟨br, 0, none⟩ = some (.bool true)) :
    Calls Tryz.prog 38 #[.pointer (some ⟨br, 0, none⟩)] W fun e w' => e = .returned (.bool true) ∧ W = w' := by
  go_enter Tryz.func38, Tryz.ntmps38
  go_wp2
  go_ret
  exact ⟨rfl, rfl⟩
end Go.Proofs.YtcmllllbmgcnlaaGreat.Rl
end
section
namespace Go.Proofs.YtcmllllbmgcnlaaGreat.Rl
open Go.RowKit Go.Lib Go.Shelf Go.Proofs.YtcmllllbmgcnlaaGreat.G Go.Proofs.YtcmllllbmgcnlaaGreat.Tup Go.Proofs.YtcmllllbmgcnlaaGreatW.PrintWords Go.Proofs.YtcmllllbmgcnlaaGreatW.PrintLast Go.Proofs.YtcmllllbmgcnlaaGreatW.PrintMore
set_option linter.unusedVariables false
set_option linter.unusedSimpArgs false
def Given (a N : Nat) (W : World) (A : Option Addr) (c : Nat) (x : Tp) : Prop := W.ownsRow a 3 1 (.slice A x.length c) x.length (x.map (Value.int .i64)) ∧ ∀ k, (Value.slice A x.length c).ownBlock = some k → k < N
def PrivX (a N : Nat) (A : Option Addr) : Nat → Prop := fun k => a ≤ k ∧ k < N ∧ ∀ ad, A = some ad → k ≠ ad.block
def Rounds2 (F : Fence) (P : Program) (l : Nat) (J Jx : List Row → World → Prop) (a N : Nat) (xs : List Row) : Prop :=
  ∀ m pre x A c W1, J pre W1 → pre ++ [x] <+: xs → Given a N W1 A c x.1 → YieldAt F m P l #[.slice A x.1.length c, noteV x.2] W1 fun e W' => (e = .returned (.bool true) ∧ J (pre ++ [x]) W' ∧ KpF (PrivX a N A) W1 W') ∨ (e = .returned (.bool false) ∧ Jx (pre ++ [x]) W' ∧ KeepsFrom a W1 W')
def Seq2R (F : Fence) (P : Program) (gf : Nat) (lb : Array Value) (xs : List Row) (w : World) : Prop :=
  ∀ (l : Nat) (J Jx : Nat → List Row → World → Prop) (W : World), Below w.heap.size w W → (∀ N, W.heap.size ≤ N → OwnFrom W.heap.size (J N)) → (∀ N, W.heap.size ≤ N → OwnFrom W.heap.size (Jx N)) → (∀ N, W.heap.size ≤ N → Rounds2 F P l (J N) (Jx N) W.heap.size N xs) → (∀ W', Below W.heap.size W W' → J W'.heap.size [] W') →
    ∀ n, CallsIn F n P gf (#[.func (.yield l) #[] #[]] ++ lb) W fun e W' => (∃ v, e = .returned v) ∧ ∃ N, W.heap.size ≤ N ∧ (J N xs W' ∨ ∃ pre, pre <+: xs ∧ Jx N pre W')
theorem rounds_of2 {F : Fence} {n : Nat} (hd : F.depth = none) {P : Program} {B l : Nat} (hBl : B ≤ l) {fn : FuncId} {tm : Array Value} {ps : Array Tmp} {assign body : Code} {d : Nat} (hfn : F.fn fn) {a0 N0 : Nat} {xs : List Row} (hps : ps.size = 2) (I : List Row → World → Prop) (Ix : Code → List Row → World → Prop) (hI : OwnFrom B I) (hIx : ∀ c, OwnFrom B (Ix c)) (Dl : List Nat) (hD : ∀ D ∈ Dl, B ≤ D ∧ D ≠ l) (hla : l < a0) (hBa : B ≤ a0) (a₁ : Row → Option Addr → Nat → Act)
    (hassign : ∀ x A c W (K : Act → World → Prop), K (a₁ x A c) W → assign.wpIn (F.inRound l) n P (Exit.then K (fun _ _ _ => False)) { tmps := (ps.zip #[Value.slice A x.1.length c, noteV x.2]).foldl (fun t (p, v) => t.setIfInBounds p v) tm, defers := [] } W)
    (hbody : ∀ pre x A c W1, (∃ r, W1.heap[l]? = some (.loop r)) → pre ++ [x] <+: xs → Given a0 N0 W1 A c x.1 → I pre W1 → body.wpIn (F.inRound l) n P (ownPostG B (KpF (PrivX a0 N0 A)) I Ix (pre ++ [x]) W1) (a₁ x A c) W1) :
    Rounds2 F P l (fun pre W => I pre W ∧ W.heap[l]? = some (.loop (recOf fn tm ps assign body d .ready none)) ∧ Marks Dl W) (fun pre W => ∃ c, Ix c pre W ∧ W.heap[l]? = some (.loop (recOf fn tm ps assign body d .done (some c))) ∧ Marks Dl W) a0 N0 xs := by
  rintro m pre x A c W1 ⟨hi1, hl1, hk1⟩ hpre ⟨ho, hN⟩
  have hlt1 := (Array.getElem?_eq_some_iff.1 hl1).1
  refine yieldAny hd m ⟨fn, _, assign, body, run_yield hl1 (by simp [recOf, hps]), roundIn_of_wpIn hfn (hassign x A c W1 _ ⟨_, run_beginRound hl1 rfl, ?_⟩)⟩
  obtain ⟨ob, hob⟩ : ∃ ob, ob = Obj.loop { recOf fn tm ps assign body d .ready none with state := .busy } := ⟨_, rfl⟩
  rw [← hob]
  have hoo : Given a0 N0 (W1.putObj l ob) A c x.1 := ⟨own_move ho fun k hk => World.putObj_heap_other (fun e => by
    obtain ⟨cells, hc⟩ := own_typed ho k hk
    rw [e, hl1] at hc; cases hc), hN⟩
  have hl2 : (W1.putObj l ob).heap[l]? = some ob := World.putObj_heap_same hlt1
  have hk2 : Marks Dl (W1.putObj l ob) := fun D hD' => (World.putObj_heap_other (hD D hD').2).trans (hk1 D hD')
  refine wpIn_mono (hbody pre x A c (W1.putObj l ob) ⟨_, hl2.trans (by rw [hob])⟩ hpre hoo (hI.putObj _ hi1 hBl hl1 rfl)) ?_
  have hnl : ∀ k, PrivX a0 N0 A k → k ≠ l := fun k hk => by have := hk.1; omega
  have fin : ∀ (jump : Option Code) (W3 : World), KeepsFrom B (W1.putObj l ob) W3 → ∃ v W4, (Instr.endRound l jump).run P W3 = .ok v W4 ∧ v = .bool jump.isNone ∧ W4 = W3.putObj l (.loop (recOf fn tm ps assign body d (if jump.isNone then .ready else .done) jump)) ∧ W3.heap[l]? = some ob ∧ W4.heap[l]? = some (.loop (recOf fn tm ps assign body d (if jump.isNone then .ready else .done) jump)) ∧ Marks Dl W4 := by
    intro jump W3 hk3
    have hl3 : W3.heap[l]? = some ob := hk3.same l ob hBl hl2 (by rw [hob]; rfl)
    have hlt3 := (Array.getElem?_eq_some_iff.1 hl3).1
    refine ⟨_, _, run_endRound jump (hl3.trans (by rw [hob])), rfl, rfl, hl3, World.putObj_heap_same hlt3, fun D hD' => (World.putObj_heap_other (hD D hD').2).trans (hk3.same D _ (hD D hD').1 (hk2 D hD') rfl)⟩
  have stop : ∀ (cc : Code) (W3 : World), KeepsFrom B (W1.putObj l ob) W3 → Ix cc (pre ++ [x]) W3 → ∃ v W4, (Instr.endRound l (some cc)).run P W3 = .ok v W4 ∧ ((Ending.returned v = .returned (.bool true) ∧ (I (pre ++ [x]) W4 ∧ W4.heap[l]? = some (.loop (recOf fn tm ps assign body d .ready none)) ∧ Marks Dl W4) ∧ KpF (PrivX a0 N0 A) W1 W4) ∨ (Ending.returned v = .returned (.bool false) ∧ (∃ c', Ix c' (pre ++ [x]) W4 ∧ W4.heap[l]? = some (.loop (recOf fn tm ps assign body d .done (some c'))) ∧ Marks Dl W4) ∧ KeepsFrom a0 W1 W4)) := by
    intro cc W3 hk3 hx
    obtain ⟨v, W4, hr, rfl, rfl, hl3, hl4, hm4⟩ := fin (some cc) W3 hk3
    exact ⟨_, _, hr, .inr ⟨rfl, ⟨cc, (hIx cc).putObj _ hx hBl hl3 (by rw [hob]; rfl), hl4, hm4⟩, ⟨by have := hk3.size; simp at this ⊢; exact this, fun k o hk ho hc => (World.putObj_heap_other (by omega)).trans (hk3.same k o (by omega) ((World.putObj_heap_other (by omega)).trans ho) hc)⟩⟩⟩
  rintro e a3 W3 hp
  cases e with
  | normal =>
    obtain ⟨hk3, hkp3, hi3⟩ := hp
    obtain ⟨v, W4, hr, rfl, rfl, hl3, hl4, hm4⟩ := fin none W3 hk3
    refine ⟨_, _, hr, .inl ⟨rfl, ⟨hI.putObj _ hi3 hBl hl3 (by rw [hob]; rfl), hl4, hm4⟩, ?_⟩⟩
    have q1 : KpF (PrivX a0 N0 A) W1 (W1.putObj l ob) := ⟨by simp, fun k hk _ => World.putObj_heap_other (hnl k hk)⟩
    exact (q1.trans hkp3).trans ⟨by simp, fun k hk _ => World.putObj_heap_other (hnl k hk)⟩
  | ret => exact stop .ret W3 hp.1 hp.2
  | exit id => exact stop (.exit id) W3 hp.1 hp.2
  | goto t => exact stop (.goto t) W3 hp.1 hp.2
  | panic ch => exact hp.elim
  | outgrown => exact hp.elim
theorem range2_outer {F : Fence} {n : Nat} {P : Program} {g : Operand} {ps : Array Tmp} {assign body : Code} {Q : Exit → Act → World → Prop} {a : Act} {w : World} (hd : F.depth = none) (hro : F.round = none)
    {gf : Nat} {lb : Array Value} (hg : a.eval g = .func (.func gf) #[] lb) (hFg : F.fn gf) (eg : ∀ args w, (callFunc gf args).run P w = .ok (.enter gf args) w)
    {xs : List Row} (hseq : Seq2R F P gf lb xs w) (hps : ps.size = 2)
    (I : Nat → List Row → World → Prop) (Ix : Nat → Code → List Row → World → Prop) (hI : ∀ N, w.heap.size + 2 ≤ N → OwnFrom w.heap.size (I N)) (hIx : ∀ N c, w.heap.size + 2 ≤ N → OwnFrom w.heap.size (Ix N c)) (h0 : ∀ W', Below w.heap.size w W' → w.heap.size + 2 ≤ W'.heap.size → I W'.heap.size [] W') (a₁ : Row → Option Addr → Nat → Act)
    (hassign : ∀ l x A c W (K : Act → World → Prop), K (a₁ x A c) W → assign.wpIn (F.inRound l) n P (Exit.then K (fun _ _ _ => False)) { tmps := (ps.zip #[Value.slice A x.1.length c, noteV x.2]).foldl (fun t (p, v) => t.setIfInBounds p v) a.tmps, defers := [] } W)
    (hbody : ∀ N l pre x A c W1, w.heap.size + 2 ≤ N → w.heap.size ≤ l → (∃ r, W1.heap[l]? = some (.loop r)) → pre ++ [x] <+: xs → Given (w.heap.size + 2) N W1 A c x.1 → I N pre W1 → body.wpIn (F.inRound l) n P (ownPostG w.heap.size (KpF (PrivX (w.heap.size + 2) N A)) (I N) (Ix N) (pre ++ [x]) W1) (a₁ x A c) W1)
    (hdone : ∀ (N D : Nat) (W : World), w.heap.size + 2 ≤ N → w.heap.size ≤ D → I N xs W → W.heap[D]? = some (.deferred (some [])) → Q .normal { a with defers := { target := .collected D, args := #[] } :: a.defers } W)
    (hstop : ∀ (N D : Nat) (c : Code) (pre : List Row) (W : World), w.heap.size + 2 ≤ N → w.heap.size ≤ D → pre <+: xs → Ix N c pre W → W.heap[D]? = some (.deferred (some [])) → c.wpIn F n P Q { a with defers := { target := .collected D, args := #[] } :: a.defers } W) :
    (Code.rangeFunc g ps assign body).wpIn F n P Q a w := by
  refine wpIn_rangeFunc ?_
  intro fn hfn
  rw [hro]
  obtain ⟨W1, hW1⟩ : ∃ W1, (w.alloc (.deferred (some []))).alloc (.loop (recOf fn a.tmps ps assign body w.heap.size .ready none)) = W1 := ⟨_, rfl⟩
  have hL1 : W1.heap[w.heap.size + 1]? = some (.loop (recOf fn a.tmps ps assign body w.heap.size .ready none)) := by
    rw [← hW1]; have := World.alloc_heap_new (w.alloc (.deferred (some []))) (.loop (recOf fn a.tmps ps assign body w.heap.size .ready none)); rwa [World.size_alloc] at this
  have hK1 : W1.heap[w.heap.size]? = some (.deferred (some [])) := by
    rw [← hW1]; exact (Below.heap_alloc _ _ _ (by simp)).trans (World.alloc_heap_new w _)
  have hb1 : Below w.heap.size w W1 := by rw [← hW1]; exact below_alloc (below_alloc (Below.refl _ _) _) _
  have hw1 : W1.heap.size = w.heap.size + 2 := by rw [← hW1]; simp
  refine ⟨w.heap.size + 1, [{ target := .collected w.heap.size, args := #[] }], W1, { target := .fn (.func gf) lb, args := #[.func (.yield (w.heap.size + 1)) #[] #[]] }, W1, gf,
    #[.func (.yield (w.heap.size + 1)) #[] #[]] ++ lb, W1, ?_, ?_, ?_, ?_, (fun h => by rw [hd] at h; cases h), ?_⟩
  · rw [← hW1]; exact run_enterLoop_outer _ _ _ _ _
  · simp only [resolve, hg]
    simp [go_sem]
  · intro f' hf'; simp [Target.leads] at hf'; subst hf'; exact hFg
  · simp [invoke, go_sem, eg]
  · have hR : ∀ N, W1.heap.size ≤ N → _ := fun N hN => rounds_of2 (n := n) (P := P) (B := w.heap.size) (l := w.heap.size + 1) (d := w.heap.size) (tm := a.tmps) (ps := ps) (assign := assign) (body := body) hd (by omega) hfn (a0 := w.heap.size + 2) (N0 := N) hps (I N) (Ix N) (hI N (by omega)) (fun c => hIx N c (by omega)) [w.heap.size] (fun D hD => by simp at hD; subst hD; omega) (by omega) (by omega) a₁ (hassign _) (fun pre x A c W1 => hbody N _ pre x A c W1 (by omega) (by omega))
    have keep : ∀ {A B : World} {row : Option Nat} (k : Nat) (o : Obj), A.grownBy B row → (∀ r, row = some r → W1.heap.size ≤ r ∧ ∃ o : Obj, A.heap[r]? = some o ∧ o.isCells = false) → A.heap[k]? = some o → k < W1.heap.size → B.heap[k]? = some o := fun k o hg hr hk hlt =>
      (hg.block k (Array.getElem?_eq_some_iff.1 hk).1 (fun e => by have := (hr k e.symm).1; omega)).trans hk
    have hnw : ∀ {A : World} {row : Option Nat}, (∀ r, row = some r → W1.heap.size ≤ r ∧ ∃ o : Obj, A.heap[r]? = some o ∧ o.isCells = false) → (∀ r, row = some r → w.heap.size ≤ r ∧ ∃ o : Obj, A.heap[r]? = some o ∧ o.isCells = false) :=
      fun hr r e => by obtain ⟨hB, o, ho, hw⟩ := hr r e; exact ⟨by omega, o, ho, hw⟩
    rw [← hw1] at hR
    refine (hseq (w.heap.size + 1) (fun N pre W => I N pre W ∧ W.heap[w.heap.size + 1]? = some (.loop (recOf fn a.tmps ps assign body w.heap.size .ready none)) ∧ Marks [w.heap.size] W) (fun N pre W => ∃ c, Ix N c pre W ∧ W.heap[w.heap.size + 1]? = some (.loop (recOf fn a.tmps ps assign body w.heap.size .done (some c))) ∧ Marks [w.heap.size] W) W1 hb1
      (fun N hN s A B row hs hg' hr => ⟨hI N (by omega) s A B row hs.1 hg' (hnw hr), keep _ _ hg' hr hs.2.1 (by omega), fun D hD => keep _ _ hg' hr (hs.2.2 D hD) (by simp at hD; omega)⟩)
      (fun N hN s A B row hs hg' hr => by
        obtain ⟨c, hc, hl, hk⟩ := hs
        exact ⟨c, hIx N c (by omega) s A B row hc hg' (hnw hr), keep _ _ hg' hr hl (by omega), fun D hD => keep _ _ hg' hr (hk D hD) (by simp at hD; omega)⟩) hR
      (fun W' hW' => ⟨h0 W' (below_then hb1 hb1.size hW') (by have := hW'.size; omega), blk hW' hL1, fun D hD => by simp at hD; subst hD; exact blk hW' hK1⟩) (n - 1)).mono ?_
    rintro e W2 ⟨⟨v, rfl⟩, N, hN, (⟨hi, hl, hk⟩ | ⟨pre, hpre, c, hi, hl, hk⟩)⟩
    · exact ⟨none, _, run_endLoop hl (by simp [recOf]), hdone N _ _ (by omega) (Nat.le_refl _) ((hI N (by omega)).putObj _ hi (by omega) hl rfl) ((World.putObj_heap_other (by omega)).trans (hk _ (by simp)))⟩
    · exact ⟨some c, _, run_endLoop hl (by simp [recOf]), hstop N _ c pre _ (by omega) (Nat.le_refl _) hpre ((hIx N c (by omega)).putObj _ hi (by omega) hl rfl) ((World.putObj_heap_other (by omega)).trans (hk _ (by simp)))⟩
end Go.Proofs.YtcmllllbmgcnlaaGreat.Rl
end
section
namespace Go.Proofs.YtcmllllbmgcnlaaGreat.Rl
open Go.RowKit Go.Lib Go.Deep Go.Proofs.YtcmllllbmgcnlaaGreat.G Go.Proofs.YtcmllllbmgcnlaaGreat.Tup Go.Proofs.YtcmllllbmgcnlaaGreatW.PrintWords Go.Proofs.YtcmllllbmgcnlaaGreatW.PrintLast Go.Proofs.YtcmllllbmgcnlaaGreatW.PrintMore
set_option linter.unusedVariables false
set_option linter.unusedSimpArgs false
theorem plainO_drop {n i : Nat} (h : i < n) : (plainO n).drop i = (i : Int) :: (plainO n).drop (i + 1) := by
  rw [List.drop_eq_getElem_cons (by rw [plainO_len]; exact h)]
  simp [plainO]
theorem plainO_end (n : Nat) : (plainO n).drop n = [] := List.drop_eq_nil_of_le (by rw [plainO_len]; omega)
set_option maxHeartbeats 4000000 in
set_option maxRecDepth 100000 in
theorem compare_calls (W : World) (n : Nat) (A : Option Addr) (c : Nat) (t : Tp) (B : Option Addr) (d : Nat) (s : Tp) (ht : Sl W A c t) (hs : Sl W B d s) (hlt : t.length = n) (hls : s.length = n) (hn : n ≤ 1000) :
    Calls Tryz.prog 73 #[.slice A n c, .slice B n d] W fun e w' => e = .returned (.int .i64 (cmpL (plainO n) t s)) ∧ Drawn0 W w' := by
  have H1 := Aside0.mk ht
  have H2 := Aside0.mk hs
  have L1 := Aside0.mk hlt
  have L2 := Aside0.mk hls
  have HI := Aside0.mk (fun (k : Nat) (h : k < n) => And.intro (IntWalk.i64_in ((k : Int) + 1) (by omega)) (show (0 : Int) ≤ (k : Int) from by omega))
  obtain ⟨r, hr⟩ : ∃ r, r = cmpL (plainO n) t s := ⟨_, rfl⟩
  rw [← hr]
  have HR := Aside0.mk hr
  clear ht hs hlt hls hr
  go_enter Tryz.func73, Tryz.ntmps73
  go_wp2
  go_loopg [11] n (fun gk v11 wr => ∃ k : Nat, v11 = .int .i64 (k : Int) ∧ Aside0 (k + gk = n) ∧ Aside0 (Drawn0 W wr) ∧ Aside0 (r = cmpL ((plainO n).drop k) t s))
  case atStart => exact ⟨0, rfl, ⟨by omega⟩, ⟨⟨0, rfl⟩⟩, ⟨HR.out⟩⟩
  case round =>
    obtain ⟨k, rfl, HK, HD, HQ⟩ := hrel
    obtain ⟨m, rfl⟩ := HD.out
    by_cases hk : k < n
    · have hkd : decide (k < n) = true := decide_eq_true hk
      have hki : (k : Int) < (n : Int) := by omega
      have hkn : ¬ (n : Int) ≤ (k : Int) := by omega
      obtain ⟨ad, rfl, c1⟩ := Kd.at_int (Kd.C_drewN H1.out.C m) (k : Int) (by omega) (by rw [L1.out]; omega)
      obtain ⟨bd, rfl, c2⟩ := Kd.at_int (Kd.C_drewN H2.out.C m) (k : Int) (by omega) (by rw [L2.out]; omega)
      rw [show ((k : Int)).toNat = k from by omega] at c1 c2
      obtain ⟨x, hx⟩ : ∃ x, x = rd t (k : Int) := ⟨_, rfl⟩
      obtain ⟨y, hy⟩ : ∃ y, y = rd s (k : Int) := ⟨_, rfl⟩
      rw [← hx] at c1
      rw [← hy] at c2
      have HC := Aside0.mk (fun w => cmp_Compare_int.calls x y _ w (compare_is x y))
      have HS := Aside0.mk (show r = if x < y then -1 else if x > y then 1 else cmpL ((plainO n).drop (k + 1)) t s from by rw [hx, hy, HQ.out, plainO_drop hk]; rfl)
      clear hx hy
      by_cases h1 : x < y
      · have HC1 : Aside0 (∀ w, Calls Tryz.prog 96 #[.int .i64 x, .int .i64 y] w fun e w' => e = .returned (.int .i64 (-1)) ∧ Drawn0 w w') := ⟨fun w => by have := HC.out w; rwa [if_pos h1] at this⟩
        have HS1 := Aside0.mk (HS.out.trans (if_pos h1))
        clear h1 HC HS
        go_wp2_with (go_at_call 96; (with_reducible refine (HC1.out _).mono ?_); rintro e w1 ⟨rfl, ⟨m1, rfl⟩⟩)
        go_ret
        exact ⟨by rw [HS1.out]; rfl, ⟨m + m1, by first | rfl | simp [World.drewN, Nat.add_assoc]⟩⟩
      · by_cases h2 : x > y
        · have HC1 : Aside0 (∀ w, Calls Tryz.prog 96 #[.int .i64 x, .int .i64 y] w fun e w' => e = .returned (.int .i64 1) ∧ Drawn0 w w') := ⟨fun w => by have := HC.out w; rwa [if_neg h1, if_pos h2] at this⟩
          have HS1 := Aside0.mk (HS.out.trans ((if_neg h1).trans (if_pos h2)))
          clear h1 h2 HC HS
          go_wp2_with (go_at_call 96; (with_reducible refine (HC1.out _).mono ?_); rintro e w1 ⟨rfl, ⟨m1, rfl⟩⟩)
          go_ret
          exact ⟨by rw [HS1.out]; rfl, ⟨m + m1, by first | rfl | simp [World.drewN, Nat.add_assoc]⟩⟩
        · have HC1 : Aside0 (∀ w, Calls Tryz.prog 96 #[.int .i64 x, .int .i64 y] w fun e w' => e = .returned (.int .i64 0) ∧ Drawn0 w w') := ⟨fun w => by have := HC.out w; rwa [if_neg h1, if_neg h2] at this⟩
          have HS1 := Aside0.mk (HS.out.trans ((if_neg h1).trans (if_neg h2)))
          clear h1 h2 HC HS
          go_wp2_with (go_at_call 96; (with_reducible refine (HC1.out _).mono ?_); rintro e w1 ⟨rfl, ⟨m1, rfl⟩⟩)
          obtain ⟨g2, hg2⟩ : ∃ g2, g2 = gk - 1 := ⟨_, rfl⟩
          go_roundg g2
          case measure => have := HK.out; omega
          case rel => exact ⟨k + 1, by go_num, ⟨by have := HK.out; omega⟩, ⟨⟨m + m1, by simp⟩⟩, HS1⟩
    · have hkd : decide (k < n) = false := decide_eq_false hk
      have hki : ¬ (k : Int) < (n : Int) := by omega
      have hnn : ¬ (n : Int) < (n : Int) := by omega
      have HS1 : Aside0 (r = 0) := ⟨by
        have : k = n := by have := HK.out; omega
        rw [HQ.out, this, plainO_end]; rfl⟩
      go_wp2
      go_ret
      exact ⟨by rw [HS1.out]; rfl, ⟨m, rfl⟩⟩
end Go.Proofs.YtcmllllbmgcnlaaGreat.Rl
end
section
namespace Go.Proofs.YtcmllllbmgcnlaaGreat.Rl
open Go.RowKit Go.Lib Go.Shelf Go.Proofs.YtcmllllbmgcnlaaGreat.G Go.Proofs.YtcmllllbmgcnlaaGreat.Tup Go.Proofs.YtcmllllbmgcnlaaGreatW.PrintWords Go.Proofs.YtcmllllbmgcnlaaGreatW.PrintLast Go.Proofs.YtcmllllbmgcnlaaGreatW.PrintMore
set_option linter.unusedVariables false
set_option linter.unusedSimpArgs false
theorem op_round {P : Program} {ops : Array Oper} {Q : Exit → Act → World → Prop} {l n : Nat} (hL : ¬ LetsOut Q) {i : Nat} (hd : ∀ o, ops[i]? = some o → ∀ c, o.op ≠ .defer c) {K K' : Act → World → Prop} {a : Act} {w : World} (h : wpOp P ops Q i K a w) (hK : ∀ a w, K a w → K' a w) : wpOpIn (Fence.wide.inRound l) n P ops Q i K' a w := by
  unfold wpOp at h
  unfold wpOpIn
  cases ho : ops[i]? with
  | none => rw [ho] at h; exact hK _ _ h
  | some o =>
    rw [ho] at h
    dsimp only at h ⊢
    split
    · rename_i hw
      rw [if_pos hw] at h
      rcases h with h | h
      · refine ⟨fun f _ => trivial, ?_⟩
        rw [Oper.semAt_eq _ _ _ (hd o ho)]
        unfold Oper.wp at h
        generalize (execOp a.eval o).run P w = r at h ⊢
        cases r with
        | ok x w' =>
          cases x <;> simp only [Oper.upon, Oper.uponIn] at h ⊢
          case value u => exact hK _ _ h
          case skip => exact hK _ _ h
          case defer d => exact hK _ _ h
          case enter f args =>
            refine ⟨(fun h => Bool.noConfusion h), (callsIn_wide (n := n - 1)).2 (h.mono fun e w'' he => ?_)⟩
            cases e with
            | returned v => exact hK _ _ he
            | panicked c => exact he
            | outgrown => exact he
          case row row args => exact ⟨(fun h => Bool.noConfusion h), fun c cs _ => let ⟨v, w', r, s⟩ := h c cs; ⟨v, w', hK _ _ r, stepsIn_wide.2 s⟩⟩
        | halt x w' =>
          cases x <;> simp only [Oper.upon, Oper.uponIn] at h ⊢
          case panic u => exact h
      · exact absurd h.2 hL
    · rename_i hw
      rw [if_neg hw] at h
      exact ⟨fun f _ => trivial, hK _ _ h⟩
theorem any_round {P : Program} {md : Region.Mode} {ops : Array Oper} {Q : Exit → Act → World → Prop} {l n : Nat} (hL : ¬ LetsOut Q) (hd : ∀ (i : Nat) (o : Oper), ops[i]? = some o → ∀ c, o.op ≠ Op.defer c) : ∀ (fuel : Nat) (listed : Array Bool) (a : Act) (w : World), wpAny P md ops Q fuel listed a w → wpAnyIn (Fence.wide.inRound l) n P md ops Q fuel listed a w
  | 0, _, _, _, h => h
  | fuel + 1, listed, a, w, h => ⟨h.1, fun i hi => op_round hL (hd i) (h.2 i hi) fun a w h => any_round hL hd fuel _ a w h⟩
def noDefer (o : Oper) : Bool := match o.op with
  | .defer _ => false
  | _ => true
theorem region_round {P : Program} {S : World → Prop} {ops : Array Oper} {id : Nat} {Q : Exit → Act → World → Prop} {a : Act} {w : World} {l n : Nat} (hm : P.follows .mixedOrders = true) (hd : ops.all noDefer = true) (hL : ¬ LetsOut Q) (hS : S w.drew) (h : S w.drew → wpAnyH P .any ops Q S ops.size (Array.replicate ops.size false) a w.drew) : (Code.region id ops true).wpIn (Fence.wide.inRound l) n P Q a w :=
  wpIn_region_any hm (any_round hL (fun i o ho c e => by
    have h1 := Array.all_eq_true.1 hd i (Array.getElem?_eq_some_iff.1 ho).1
    rw [(Array.getElem?_eq_some_iff.1 ho).2] at h1
    simp [noDefer, e] at h1) _ _ _ _ (wpAny_of_held _ _ _ _ (h hS)))
end Go.Proofs.YtcmllllbmgcnlaaGreat.Rl
end
