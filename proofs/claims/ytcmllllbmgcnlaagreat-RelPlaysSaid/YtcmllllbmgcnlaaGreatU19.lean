/- Own texts, joined and cut to what the claim stands on: RlBegin. -/
import Derived.Test.YtcmllllbmgcnlaaGreatU18
section
namespace Go.Proofs.YtcmllllbmgcnlaaGreat.Rl
open Go.RowKit Go.Lib Go.Deep Go.Proofs.YtcmllllbmgcnlaaGreat.G Go.Proofs.YtcmllllbmgcnlaaGreat.Tup Go.Proofs.YtcmllllbmgcnlaaGreatW.PrintWords Go.Proofs.YtcmllllbmgcnlaaGreatW.PrintLast Go.Proofs.YtcmllllbmgcnlaaGreatW.PrintMore
set_option linter.unusedVariables false
set_option linter.unusedSimpArgs false
abbrev bp (b : Nat) : Value := .pointer (some ⟨b, 0, none⟩)
theorem infoS : (Tryz.prog.info? 99).map (fun i => (i.zero, i.size, i.bytes)) = some (some (.pointer none), 1, 8) := by kernel_rfl
def BegOk (m n : Nat) (A : Option Addr) (bss : List Nat) : Nat → Prop := fun k => m < k ∧ k < n ∧ k ∉ bss ∧ ∀ ad, A = some ad → k ≠ ad.block
structure BegI (W : World) (br wd m : Nat) (Ao : Option Addr) (co : Nat) (os : List Tp) (i : Nat) (A : Option Addr) (c : Nat) (bss : List Nat) (wr : World) : Prop where
 hp : wr.heap[br]? = some (.cells #[.bool true, .int .i64 (wd : Int), .slice Ao os.length co, .slice A i c, .map (some m)] 74 (0, 0))
 hm : wr.heap[m]? = some (.map #[] 0)
 own : wr.ownsRow (m + 1) 99 1 (.slice A i c) i (bss.map bp)
 len : bss.length = i
 kp : KeptS (fun k => k = br) W wr
 sets : ∀ j (h1 : j < os.length) (h2 : j < bss.length), ∃ A' c' rt, SetAt (BegOk m wr.heap.size A bss) wr bss[j] A' c' os[j] rt (.mk [] [])
 nd : bss.Nodup
 rng : ∀ b ∈ bss, m < b ∧ b < wr.heap.size ∧ ∀ ad, A = some ad → b ≠ ad.block
 me : m = W.heap.size
 brm : br < m
section
variable {W wr w2 w3 : World} {br wd m : Nat} {Ao : Option Addr} {co : Nat} {os : List Tp} {i : Nat} {A : Option Addr} {c : Nat} {bss : List Nat}
theorem BegI.szm (h : BegI W br wd m Ao co os i A c bss wr) : m < wr.heap.size := (Array.getElem?_eq_some_iff.1 h.hm).1
theorem BegI.ablk (h : BegI W br wd m Ao co os i A c bss wr) : ∀ ad, A = some ad → m < ad.block ∧ ad.block < wr.heap.size := fun ad e => by
 have h1 := own_ge h.own ad.block (by rw [e]; rfl)
 have h2 := Tup.own_lt h.own ad.block (by rw [e]; rfl)
 exact ⟨by omega, h2⟩
theorem BegI.more (h : BegI W br wd m Ao co os i A c bss wr) (hi : i < os.length) {bs c1 rt : Nat} {A0 : Option Addr} (hb : Below wr.heap.size wr w2) (hbs : wr.heap.size ≤ bs) {o : Tp} (ho' : o = os[i]) (hS : SetAt (fun k => wr.heap.size ≤ k ∧ k < w2.heap.size ∧ k ≠ bs) w2 bs A0 c1 o rt (.mk [] []))
    {g' cap' : Nat} (ho : w3.ownsRow (m + 1) 99 1 (.slice (some ⟨g', 0, none⟩) (i + 1) cap') (i + 1) (bss.map bp ++ [bp bs])) (hg : (w2.alloc (.cells #[bp bs] 99)).grownBy w3 (Value.slice A i c).ownBlock) (hat : (Value.slice (some ⟨g', 0, none⟩) (i + 1) cap').ownBlock = (Value.slice A i c).ownBlock ∨ ∃ b, (Value.slice (some ⟨g', 0, none⟩) (i + 1) cap').ownBlock = some b ∧ (w2.alloc (.cells #[bp bs] 99)).heap.size ≤ b) :
    BegI W br wd m Ao co os (i + 1) (some ⟨g', 0, none⟩) cap' (bss ++ [bs]) (w3.setCell ⟨br, 3, none⟩ (.slice (some ⟨g', 0, none⟩) (i + 1) cap')) ∧ w3.frozen? ⟨br, 3, none⟩ = false ∧ w3.cell? ⟨br, 3, none⟩ = some (.slice A i c) := by
  subst ho'
  have hsz := hb.size
  have hbs2 := hS.lt
  have hg3 : (w2.alloc (.cells #[bp bs] 99)).heap.size ≤ w3.heap.size := hg.size
  have hs3 : w2.heap.size + 1 ≤ w3.heap.size := by simpa using hg3
  have hat' : (∃ ad, A = some ad ∧ g' = ad.block) ∨ w2.heap.size < g' := by
    rcases hat with e | ⟨b, e, hb⟩
    · cases A with
      | none => simp [Value.ownBlock] at e
      | some ad => exact .inl ⟨ad, rfl, by simpa [Value.ownBlock] using e⟩
    · have e' : g' = b := by simpa [Value.ownBlock] using e
      simp at hb
      exact .inr (by omega)
  have hkeep : ∀ k, k < w2.heap.size → (∀ ad, A = some ad → k ≠ ad.block) → k ≠ br → (w3.setCell ⟨br, 3, none⟩ (.slice (some ⟨g', 0, none⟩) (i + 1) cap')).heap[k]? = w2.heap[k]? := fun k hk h1 h2 => by
    rw [Below.heap_setCell _ _ _ _ h2, hg.block k (by simp; omega) (fun e => by
      cases A with
      | none => simp [Value.ownBlock] at e
      | some ad => exact h1 ad rfl (by simpa [Value.ownBlock] using e)), Below.heap_alloc _ _ _ hk]
  have hszm := h.szm
  have hbrm := h.brm
  have hab := h.ablk
  have hp3 : w3.heap[br]? = some (.cells #[.bool true, .int .i64 (wd : Int), .slice Ao os.length co, .slice A i c, .map (some m)] 74 (0, 0)) := by
    rw [hg.block br (by simp; omega) (fun e => by
      cases A with
      | none => simp [Value.ownBlock] at e
      | some ad => have := hab ad rfl; have : br = ad.block := by simpa [Value.ownBlock] using e
                   omega), Below.heap_alloc _ _ _ (by omega), hb.block br (by omega)]
    exact h.hp
  have hsz4 : (w3.setCell ⟨br, 3, none⟩ (.slice (some ⟨g', 0, none⟩) (i + 1) cap')).heap.size = w3.heap.size := by simp
  have hg'lt := Tup.own_lt ho g' rfl
  have hg'ge := own_ge ho g' rfl
  have hnb : ∀ b ∈ bss ++ [bs], m < b ∧ b < w2.heap.size ∧ b ≠ g' ∧ ∀ ad, A = some ad → b ≠ ad.block := fun b hb' => by
    rw [List.mem_append, List.mem_singleton] at hb'
    rcases hb' with hb' | rfl
    · have := h.rng b hb'
      refine ⟨this.1, by omega, ?_, this.2.2⟩
      rcases hat' with ⟨ad, e, e2⟩ | hlt
      · rw [e2]; exact this.2.2 ad e
      · omega
    · refine ⟨by omega, hbs2, ?_, fun ad e => by have := hab ad e; omega⟩
      rcases hat' with ⟨ad, e, e2⟩ | hlt
      · have := hab ad e; omega
      · omega
  refine ⟨?_, Tup.free_of_heap hp3 3, (Tup.cell_of_heap hp3 3).trans rfl⟩
  refine ⟨by have := heap_setCell_same w3 br 3 _ _ (.slice (some ⟨g', 0, none⟩) (i + 1) cap') hp3; simpa using this, (hkeep m (by omega) (fun ad e => by have := hab ad e; omega) (by omega)).trans ((hb.block m hszm).trans h.hm), ?_, by simp [h.len], ?_, ?_, ?_, ?_, h.me, h.brm⟩
  · have := own_move ho (w1 := w3.setCell ⟨br, 3, none⟩ (.slice (some ⟨g', 0, none⟩) (i + 1) cap')) fun k hk => Below.heap_setCell _ _ _ _ (fun e => by
      have e' : g' = k := by simpa [Value.ownBlock] using hk
      have : k = br := e
      omega)
    simpa using this
  · have k1 := h.kp.trans (KeptS.below hb)
    have k2 : KeptS (fun k => k = br) W w3 := by
      have hW : W.heap.size ≤ w2.heap.size := k1.size
      refine ⟨hg.os.trans k1.os, hg.tape.trans k1.tape, hg.output.trans k1.output, by omega, fun k hk hn => ?_⟩
      have hme := h.me
      rw [hg.block k (by simp; omega) (fun e => by
        cases A with
        | none => simp [Value.ownBlock] at e
        | some ad => have := hab ad rfl; have : k = ad.block := by simpa [Value.ownBlock] using e
                     omega), Below.heap_alloc _ _ _ (by omega)]
      exact k1.same k hk hn
    exact ⟨k2.os, k2.tape, k2.output, by simpa using k2.size, fun k hk hn => (Below.heap_setCell _ _ _ _ hn).trans (k2.same k hk hn)⟩
  · intro j h1 h2
    have hjl : j ≤ i := by simp [h.len] at h2; omega
    by_cases hj : j = i
    · subst hj
      have e : (bss ++ [bs])[j] = bs := by
        rw [List.getElem_append_right (by rw [h.len]; exact Nat.le_refl _)]
        simp [h.len]
      rw [e]
      refine ⟨A0, c1, rt, (hS.step (fun k hk hlt => hkeep k hk.2.1 (fun ad e => by have := hab ad e; have := hk.1; omega) (by have := hk.1; omega)) (hkeep bs hbs2 (fun ad e => by have := hab ad e; omega) (by omega))).mono (fun k hk => ⟨by have := hk.1; omega, by rw [hsz4]; have := hk.2.1; omega, fun hm => ?_, fun ad e => ?_⟩) (fun hk => hk.2.2.1 (by simp))⟩
      · rw [List.mem_append, List.mem_singleton] at hm
        rcases hm with hm | hm
        · have := (h.rng k hm).2.1; have := hk.1; omega
        · exact hk.2.2 hm
      · injection e with e
        subst e
        show k ≠ g'
        rcases hat' with ⟨ad, e, e2⟩ | hlt
        · have := hab ad e; have := hk.1; omega
        · have := hk.2.1; omega
    · have hjb : j < bss.length := by rw [h.len]; omega
      have e : (bss ++ [bs])[j] = bss[j] := List.getElem_append_left hjb
      rw [e]
      obtain ⟨A', c', rt', hS'⟩ := h.sets j h1 hjb
      have hr := h.rng _ (List.getElem_mem hjb)
      refine ⟨A', c', rt', (hS'.step (fun k hk hlt => (hkeep k (by have := hk.2.1; omega) hk.2.2.2 (by have := hk.1; omega)).trans (hb.block k hlt)) ((hkeep _ (by omega) hr.2.2 (by omega)).trans (hb.block _ hr.2.1))).mono (fun k hk => ⟨hk.1, by rw [hsz4]; have := hk.2.1; omega, fun hm => ?_, fun ad e => ?_⟩) (fun hk => hk.2.2.1 (by simp))⟩
      · rw [List.mem_append, List.mem_singleton] at hm
        rcases hm with hm | hm
        · exact hk.2.2.1 hm
        · have := hk.2.1; omega
      · injection e with e
        subst e
        show k ≠ g'
        rcases hat' with ⟨ad, e, e2⟩ | hlt
        · rw [e2]; exact hk.2.2.2 ad e
        · have := hk.2.1; omega
  · rw [List.nodup_append]
    refine ⟨h.nd, by simp, fun a ha b hb' e => ?_⟩
    rw [List.mem_singleton] at hb'
    have := (h.rng a ha).2.1
    omega
  · intro b hb'
    have := hnb b hb'
    refine ⟨this.1, by rw [hsz4]; omega, fun ad e => ?_⟩
    injection e with e
    subst e
    exact this.2.2.1
end
def BegunR (okO : Nat → Prop) (W : World) (br wd : Nat) (os : List Tp) (e : Ending) (w' : World) : Prop :=
 e = .returned (.tuple #[]) ∧ KeptS (fun k => k = br) W w' ∧ ∃ m bss, W.heap.size ≤ m ∧ (∀ b ∈ bss, W.heap.size ≤ b) ∧ RelAt (fun k => (okO k ∧ k < W.heap.size) ∨ (W.heap.size ≤ k ∧ k ≠ m ∧ k ∉ bss)) w' br wd os [] m bss
theorem kn_row {w : World} {base n c : Nat} {bss : List Nat} {A : Option Addr} (h : w.ownsRow base 99 1 (.slice A n c) n (bss.map bp)) (hl : bss.length = n) : n ≤ c ∧ Kd.F KN w (fun k => ∃ ad, A = some ad ∧ k = ad.block) A n bss := by
 obtain ⟨A', c', e, hle, hF⟩ := rows_in (d := KN) (ok := fun _ => False) rfl h (Els.of (by simp) fun i hi hu => by rw [List.getElem_map]; exact nod_el _) hl.symm
 injection e with e1 e2 e3
 subst e1 e3
 rw [hl] at hle hF
 refine ⟨hle, Kd.F_mono hF fun k hk => ?_⟩
 rcases hk with hk | hk
 ·exact hk.elim
 ·cases A with
  | none => simp [Value.ownBlock] at hk
  | some ad => exact ⟨ad, rfl, by simpa [Value.ownBlock] using hk⟩
theorem BegI.done {okO : Nat → Prop} {W wr : World} {br wd m : Nat} {Ao : Option Addr} {co : Nat} {os : List Tp} {A : Option Addr} {c : Nat} {bss : List Nat} (h : BegI W br wd m Ao co os os.length A c bss wr) (hos : OsOk wd os) (hF : Kd.F KT W okO Ao os.length os) (hco : os.length ≤ co) (hn : ¬ okO br) :
  RelAt (fun k => (okO k ∧ k < W.heap.size) ∨ (W.heap.size ≤ k ∧ k ≠ m ∧ k ∉ bss)) wr br wd os [] m bss := by
 obtain ⟨hc, hK⟩ := kn_row h.own h.len
 have hme := h.me
 have hbrm := h.brm
 refine ⟨⟨Ao, co, A, c, h.hp, hco, hc, ?_, ?_⟩, hos, ⟨List.Pairwise.nil, by simp, by simp, by simp⟩, ⟨#[], 0, [], h.hm, rfl, by simp, rfl, fun _ => rfl⟩, h.len, ?_, h.nd, fun b hb => ⟨fun hk => ?_, ?_, ?_⟩, ⟨fun hk => ?_, by omega⟩, fun hk => ?_⟩
 ·exact Kd.F_mono (Kd.F_step (Kd.F_bound hF) fun k hk hlt => h.kp.same k hlt (fun e => hn (e ▸ hk.1))) (fun k hk => .inl hk)
 ·refine Kd.F_mono hK fun k hk => ?_
  obtain ⟨ad, e, rfl⟩ := hk
  have := h.ablk ad e
  exact .inr ⟨by omega, by omega, fun hm => (h.rng _ hm).2.2 ad e rfl⟩
 ·intro j h1 h2
  obtain ⟨A', c', rt, hS⟩ := h.sets j h1 h2
  refine ⟨A', c', rt, _, hS.mono (fun k hk => .inr ⟨by have := hk.1; omega, by have := hk.1; omega, hk.2.2.1⟩) (fun hk => ?_), fun t => by rw [BT.io_mk]; simp [weave, keys]⟩
  have hm := List.getElem_mem h2
  rcases hk with hk | hk
  ·have := (h.rng _ hm).1; have := hk.2; omega
  ·exact hk.2.2 hm
 ·rcases hk with hk | hk
  ·have := (h.rng _ hb).1; have := hk.2; omega
  ·exact hk.2.2 hb
 ·have := (h.rng _ hb).1; omega
 ·have := (h.rng _ hb).1; omega
 ·rcases hk with hk | hk
  ·exact hn hk.1
  ·omega
 ·rcases hk with hk | hk
  ·omega
  ·exact hk.2.1 rfl
set_option maxHeartbeats 8000000 in
set_option maxRecDepth 100000 in
theorem begin_calls {okO : Nat → Prop} {W : World} {br wd : Nat} {Ao : Option Addr} {co : Nat} {os : List Tp} {v3 v4 : Value} (hp : W.heap[br]? = some (.cells #[.bool true, .int .i64 (wd : Int), .slice Ao os.length co, v3, v4] 74 (0, 0))) (hos : OsOk wd os) (hF : Kd.F KT W okO Ao os.length os) (hco : os.length ≤ co) (hn : ¬ okO br) :
  Calls Tryz.prog 37 #[.pointer (some ⟨br, 0, none⟩)] W (BegunR okO W br wd os) := by
 have hlt : br < W.heap.size := (Array.getElem?_eq_some_iff.1 hp).1
 have hmm := @run_makeMap Tryz.prog
 obtain ⟨i0, hi0, hz0, hz1, hz2⟩ := info_parts infoS
 have HI := Aside0.mk (And.intro hi0 (And.intro hz0 (And.intro hz1 hz2)))
 have HOS := Aside0.mk (And.intro hos (And.intro hF (And.intro hco hn)))
 obtain ⟨on, hon⟩ : ∃ on, on = os.length := ⟨_, rfl⟩
 have HON := Aside0.mk hon
 have hon6 : (on : Int) ≤ 1000 := by have := hos.n; omega
 have f3 := Tup.free_of_heap hp 3
 have g3 : W.cell? ⟨br, 3, none⟩ = some v3 := (Tup.cell_of_heap hp 3).trans rfl
 have f4 := Tup.free_of_heap hp 4
 have g4 : W.cell? ⟨br, 4, none⟩ = some v4 := (Tup.cell_of_heap hp 4).trans rfl
 have c2 : W.cell? ⟨br, 2, none⟩ = some (.slice Ao on co) := (Tup.cell_of_heap hp 2).trans (by rw [hon]; rfl)
 have hb := heap_setCell_same _ br 3 _ _ (.slice none 0 0) hp
 have hc := heap_setCell_same _ br 4 _ _ (.map (some W.heap.size)) hb
 have hc' : (((W.setCell ⟨br, 3, none⟩ (.slice none 0 0)).setCell ⟨br, 4, none⟩ (.map (some W.heap.size))).alloc (.map #[] 0)).heap[br]? = some (.cells #[.bool true, .int .i64 (wd : Int), .slice Ao os.length co, .slice none 0 0, .map (some W.heap.size)] 74 (0, 0)) := (Below.heap_alloc _ _ _ (by simpa using hlt)).trans (by simpa using hc)
 have HB0 : Aside0 (BegI W br wd W.heap.size Ao co os 0 none 0 [] (((W.setCell ⟨br, 3, none⟩ (.slice none 0 0)).setCell ⟨br, 4, none⟩ (.map (some W.heap.size))).alloc (.map #[] 0))) := by
  have hk : ∀ k, k ≠ br → (((W.setCell ⟨br, 3, none⟩ (.slice none 0 0)).setCell ⟨br, 4, none⟩ (.map (some W.heap.size)))).heap[k]? = W.heap[k]? := fun k hk => by rw [Below.heap_setCell _ _ _ _ hk, Below.heap_setCell _ _ _ _ hk]
  have hz : (((W.setCell ⟨br, 3, none⟩ (.slice none 0 0)).setCell ⟨br, 4, none⟩ (.map (some W.heap.size)))).heap.size = W.heap.size := by simp
  exact ⟨⟨hc', by (have := heap_alloc_new (((W.setCell ⟨br, 3, none⟩ (.slice none 0 0)).setCell ⟨br, 4, none⟩ (.map (some W.heap.size)))) (.map #[] 0)); rw [hz] at this; exact this, World.ownsRow_nil _ _ _ _, rfl, ⟨rfl, rfl, rfl, by simp, fun k hk' hn => (Below.heap_alloc _ _ _ (by rw [hz]; exact hk')).trans (hk k hn)⟩, fun j h1 h2 => by simp at h2, List.nodup_nil, by simp, rfl, hlt⟩⟩
 clear hos hF hco hn hp hb hc hc' hi0 hz0 hz1 hz2 hon
 go_enter Tryz.func37, Tryz.ntmps37
 go_wp2
 obtain ⟨V, hV⟩ : ∃ V, V = ((W.setCell ⟨br, 3, none⟩ (.slice none 0 0)).setCell ⟨br, 4, none⟩ (.map (some W.heap.size))).alloc (.map #[] 0) := ⟨_, rfl⟩
 rw [← hV] at HB0 ⊢
 clear f3 g3 f4 g4 c2 hV hmm
 go_loopg [18] on (fun gk v18 wr => ∃ (k : Nat) (A : Option Addr) (c : Nat) (bss : List Nat), v18 = .int .i64 (k : Int) ∧ Aside0 (k + gk = on) ∧ Aside0 (BegI W br wd W.heap.size Ao co os k A c bss wr))
 case atStart => exact ⟨0, none, 0, [], rfl, ⟨by omega⟩, HB0⟩
 case round =>
  obtain ⟨k, A, c, bss, rfl, HK, HB⟩ := hrel
  clear HB0
  by_cases hk : k < on
  ·have hkd : decide (k < on) = true := decide_eq_true hk
   have hki : (k : Int) < (on : Int) := by omega
   have hko : k < os.length := by rw [← HON.out]; exact hk
   obtain ⟨ad, Ai, ci, rfl, hcell, hsl⟩ := tup_at (Kd.F_now (Kd.F_step HOS.out.2.1 (W1 := wr) fun j hj hlt' => HB.out.kp.same j hlt' (fun e => HOS.out.2.2.2 (e ▸ hj)))) k hko
   obtain ⟨o, ho⟩ : ∃ o, o = os[k] := ⟨_, rfl⟩
   have HO := Aside0.mk ho
   rw [← ho] at hcell hsl
   have HNw := Aside0.mk (new_yes wr Ai ci o hsl (by rw [ho]; exact (HOS.out.1.each _ (List.getElem_mem hko)).1))
   clear hsl ho
   go_wp2_with (first
    | (go_at_call 63; refine HNw.out.mono ?_; clear HNw; rintro e w2 ⟨hb2, bs, A1, c1, rt, rfl, hbs, hS⟩; have HB2 := Aside0.mk hb2; have HS2 := Aside0.mk (And.intro hbs hS); have hp2 := (hb2.block br (Nat.lt_trans HB.out.brm HB.out.szm)).trans HB.out.hp; have c3 := pw_cell_below (below_alloc (Below.refl _ w2) (.cells #[bp bs] 99)) ((Tup.cell_of_heap hp2 3).trans rfl); have c3' := (Tup.cell_of_heap hp2 3).trans rfl; have HP2 := Aside0.mk hp2; have hown2 := Aside0.mk ((own_move HB.out.own fun j hj => hb2.block j (Tup.own_lt HB.out.own j hj.symm)).alloc (.cells #[bp bs] 99)); clear hb2 hbs hS hp2)
    | (at_builtin; go_loud (refine wpList_append_own_at _ rfl _ _ 71 rfl (W.heap.size + 1) 99 i0 (.pointer none) 1 8 Tryz.underlying71 HI.out.1 HI.out.2.1 HI.out.2.2.1 HI.out.2.2.2 rfl (by decide) (.slice A k c) k (bss.map bp) rfl hown2.out ⟨w2.heap.size, 0, none⟩ 1 1 [bp bs] rfl rfl (cell_one_new _ _ _) (by simp [Value.oneCell']) (by unfold maxLen; omega) (by omega) (by have := HB2.out.size; have := HB.out.szm; simp; omega) ?_; intro v' w3 hown3 hg3 _ hat3; obtain ⟨g', cap', rfl⟩ := ownsRow_succ hown3; have hM := HB.out.more hko HB2.out HS2.out.1 HO.out HS2.out.2 hown3 hg3 (hat3.imp id fun h => ⟨_, h, Nat.le_refl _⟩); have HM := Aside0.mk hM.1; have f3 := hM.2.1; have g3 := hM.2.2; clear hM hown3 hg3 hat3)))
   obtain ⟨g2, hg2⟩ : ∃ g2, g2 = gk - 1 := ⟨_, rfl⟩
   go_roundg g2
   case measure => have := HK.out; omega
   case rel => exact ⟨k + 1, _, _, _, by go_num, ⟨by have := HK.out; omega⟩, HM⟩
  ·have hkd : decide (k < on) = false := decide_eq_false hk
   have hki : ¬ (k : Int) < (on : Int) := by omega
   have hke : k = os.length := by have := HK.out; have := HON.out; omega
   subst hke
   go_wp2
   go_end0
   exact ⟨rfl, HB.out.kp, _, _, Nat.le_refl _, fun b hb => by have := (HB.out.rng b hb).1; omega, HB.out.done HOS.out.1 HOS.out.2.1 HOS.out.2.2.1 HOS.out.2.2.2⟩
end Go.Proofs.YtcmllllbmgcnlaaGreat.Rl
end
