/- Own texts, joined and cut to what the claim stands on: RlBegin, RlNew, RlAlive. -/
import Derived.Test.YtcmllllbmgcnlaaGreatM31
import Derived.Test.YtcmllllbmgcnlaaGreatM29
import Derived.Test.YtcmllllbmgcnlaaGreatM30
section
namespace Go.Proofs.YtcmllllbmgcnlaaGreat.Rl
open Go.RowKit Go.Lib Go.Deep Go.Proofs.YtcmllllbmgcnlaaGreat.G Go.Proofs.YtcmllllbmgcnlaaGreat.Tup Go.Proofs.YtcmllllbmgcnlaaGreatW.PrintWords Go.Proofs.YtcmllllbmgcnlaaGreatW.PrintLast Go.Proofs.YtcmllllbmgcnlaaGreatW.PrintMore
set_option linter.unusedVariables false
set_option linter.unusedSimpArgs false
abbrev bp (b : Nat) : Value := .pointer (some ⟨b, 0, none⟩)
theorem infoS : (Tryz.prog.info? 99).map (fun i => (i.zero, i.size, i.bytes)) = some (some (.pointer none), 1, 8) := by kernel_rfl
def BegOk (m n : Nat) (A : Option Addr) (bss : List Nat) : Nat → Prop := fun k => m < k ∧ k < n ∧ k ∉ bss ∧ ∀ ad, A = some ad → k ≠ ad.block
structure BegI (W : World) (br wd m : Nat) (Ao : Option Addr) (co : Nat) (os : List Tp) (i : Nat) (A : Option Addr) (c : Nat) (bss : List Nat) (wr : World) : Prop where
  hp : wr.heap[br]? = some (.cells #[.bool true, .int .i64 (wd : Int), .slice Ao os.length co, .slice A i c, .map (some m)] 74 (0, 0))
  hm : wr.heap[m]? = some (.map #[] 0)
  own : wr.ownsRow (m + 1) 99 1 (.slice A i c) i (bss.map bp)
  len : bss.length = i
  kp : KeptS (fun k => k = br) W wr
  sets : ∀ j (h1 : j < os.length) (h2 : j < bss.length), ∃ A' c' rt, SetAt (BegOk m wr.heap.size A bss) wr bss[j] A' c' os[j] rt (.mk [] [])
  nd : bss.Nodup
  rng : ∀ b ∈ bss, m < b ∧ b < wr.heap.size ∧ ∀ ad, A = some ad → b ≠ ad.block
  me : m = W.heap.size
  brm : br < m
section
variable {W wr w2 w3 : World} {br wd m : Nat} {Ao : Option Addr} {co : Nat} {os : List Tp} {i : Nat} {A : Option Addr} {c : Nat} {bss : List Nat}
theorem BegI.szm (h : BegI W br wd m Ao co os i A c bss wr) : m < wr.heap.size := (Array.getElem?_eq_some_iff.1 h.hm).1
theorem BegI.ablk (h : BegI W br wd m Ao co os i A c bss wr) : ∀ ad, A = some ad → m < ad.block ∧ ad.block < wr.heap.size := fun ad e => by
  have h1 := own_ge h.own ad.block (by rw [e]; rfl)
  have h2 := Tup.own_lt h.own ad.block (by rw [e]; rfl)
  exact ⟨by omega, h2⟩
theorem BegI.more (h : BegI W br wd m Ao co os i A c bss wr) (hi : i < os.length) {bs c1 rt : Nat} {A0 : Option Addr} (hb : Below wr.heap.size wr w2) (hbs : wr.heap.size ≤ bs) {o : Tp} (ho' : o = os[i]) (hS : SetAt (fun k => wr.heap.size ≤ k ∧ k < w2.heap.size ∧ k ≠ bs) w2 bs A0 c1 o rt (.mk [] []))
    {g' cap' : Nat} (ho : w3.ownsRow (m + 1) 99 1 (.slice (some ⟨g', 0, none⟩) (i + 1) cap') (i + 1) (bss.map bp ++ [bp bs])) (hg : (w2.alloc (.cells #[bp bs] 99)).grownBy w3 (Value.slice A i c).ownBlock) (hat : (Value.slice (some ⟨g', 0, none⟩) (i + 1) cap').ownBlock = (Value.slice A i c).ownBlock ∨ ∃ b, (Value.slice (some ⟨g', 0, none⟩) (i + 1) cap').ownBlock = some b ∧ (w2.alloc (.cells #[bp bs] 99)).heap.size ≤ b) :
    BegI W br wd m Ao co os (i + 1) (some ⟨g', 0, none⟩) cap' (bss ++ [bs]) (w3.setCell ⟨br, 3, none⟩ (.slice (some ⟨g', 0, none⟩) (i + 1) cap')) ∧ w3.frozen? ⟨br, 3, none⟩ = false ∧ w3.cell? ⟨br, 3, none⟩ = some (.slice A i c) := by
  subst ho'
  have hsz := hb.size
  have hbs2 := hS.lt
  have hg3 : (w2.alloc (.cells #[bp bs] 99)).heap.size ≤ w3.heap.size := hg.size
  have hs3 : w2.heap.size + 1 ≤ w3.heap.size := by simpa using hg3
  have hat' : (∃ ad, A = some ad ∧ g' = ad.block) ∨ w2.heap.size < g' := by
    rcases hat with e | ⟨b, e, hb⟩
    · cases A with
      | none => simp [Value.ownBlock] at e
      | some ad => exact .inl ⟨ad, rfl, by simpa [Value.ownBlock] using e⟩
    · have e' : g' = b := by simpa [Value.ownBlock] using e
      simp at hb
      exact .inr (by omega)
  have hkeep : ∀ k, k < w2.heap.size → (∀ ad, A = some ad → k ≠ ad.block) → k ≠ br → (w3.setCell ⟨br, 3, none⟩ (.slice (some ⟨g', 0, none⟩) (i + 1) cap')).heap[k]? = w2.heap[k]? := fun k hk h1 h2 => by
    rw [Below.heap_setCell _ _ _ _ h2, hg.block k (by simp; omega) (fun e => by
      cases A with
      | none => simp [Value.ownBlock] at e
      | some ad => exact h1 ad rfl (by simpa [Value.ownBlock] using e)), Below.heap_alloc _ _ _ hk]
  have hszm := h.szm
  have hbrm := h.brm
  have hab := h.ablk
  have hp3 : w3.heap[br]? = some (.cells #[.bool true, .int .i64 (wd : Int), .slice Ao os.length co, .slice A i c, .map (some m)] 74 (0, 0)) := by
    rw [hg.block br (by simp; omega) (fun e => by
      cases A with
      | none => simp [Value.ownBlock] at e
      | some ad => have := hab ad rfl; have : br = ad.block := by simpa [Value.ownBlock] using e
                   omega), Below.heap_alloc _ _ _ (by omega), hb.block br (by omega)]
    exact h.hp
  have hsz4 : (w3.setCell ⟨br, 3, none⟩ (.slice (some ⟨g', 0, none⟩) (i + 1) cap')).heap.size = w3.heap.size := by simp
  have hg'lt := Tup.own_lt ho g' rfl
  have hg'ge := own_ge ho g' rfl
  have hnb : ∀ b ∈ bss ++ [bs], m < b ∧ b < w2.heap.size ∧ b ≠ g' ∧ ∀ ad, A = some ad → b ≠ ad.block := fun b hb' => by
    rw [List.mem_append, List.mem_singleton] at hb'
    rcases hb' with hb' | rfl
    · have := h.rng b hb'
      refine ⟨this.1, by omega, ?_, this.2.2⟩
      rcases hat' with ⟨ad, e, e2⟩ | hlt
      · rw [e2]; exact this.2.2 ad e
      · omega
    · refine ⟨by omega, hbs2, ?_, fun ad e => by have := hab ad e; omega⟩
      rcases hat' with ⟨ad, e, e2⟩ | hlt
      · have := hab ad e; omega
      · omega
  refine ⟨?_, Tup.free_of_heap hp3 3, (Tup.cell_of_heap hp3 3).trans rfl⟩
  refine ⟨by have := heap_setCell_same w3 br 3 _ _ (.slice (some ⟨g', 0, none⟩) (i + 1) cap') hp3; simpa using this, (hkeep m (by omega) (fun ad e => by have := hab ad e; omega) (by omega)).trans ((hb.block m hszm).trans h.hm), ?_, by simp [h.len], ?_, ?_, ?_, ?_, h.me, h.brm⟩
  · have := own_move ho (w1 := w3.setCell ⟨br, 3, none⟩ (.slice (some ⟨g', 0, none⟩) (i + 1) cap')) fun k hk => Below.heap_setCell _ _ _ _ (fun e => by
      have e' : g' = k := by simpa [Value.ownBlock] using hk
      have : k = br := e
      omega)
    simpa using this
  · have k1 := h.kp.trans (KeptS.below hb)
    have k2 : KeptS (fun k => k = br) W w3 := by
      have hW : W.heap.size ≤ w2.heap.size := k1.size
      refine ⟨hg.os.trans k1.os, hg.tape.trans k1.tape, hg.output.trans k1.output, by omega, fun k hk hn => ?_⟩
      have hme := h.me
      rw [hg.block k (by simp; omega) (fun e => by
        cases A with
        | none => simp [Value.ownBlock] at e
        | some ad => have := hab ad rfl; have : k = ad.block := by simpa [Value.ownBlock] using e
                     omega), Below.heap_alloc _ _ _ (by omega)]
      exact k1.same k hk hn
    exact ⟨k2.os, k2.tape, k2.output, by simpa using k2.size, fun k hk hn => (Below.heap_setCell _ _ _ _ hn).trans (k2.same k hk hn)⟩
  · intro j h1 h2
    have hjl : j ≤ i := by simp [h.len] at h2; omega
    by_cases hj : j = i
    · subst hj
      have e : (bss ++ [bs])[j] = bs := by
        rw [List.getElem_append_right (by rw [h.len]; exact Nat.le_refl _)]
        simp [h.len]
      rw [e]
      refine ⟨A0, c1, rt, (hS.step (fun k hk hlt => hkeep k hk.2.1 (fun ad e => by have := hab ad e; have := hk.1; omega) (by have := hk.1; omega)) (hkeep bs hbs2 (fun ad e => by have := hab ad e; omega) (by omega))).mono (fun k hk => ⟨by have := hk.1; omega, by rw [hsz4]; have := hk.2.1; omega, fun hm => ?_, fun ad e => ?_⟩) (fun hk => hk.2.2.1 (by simp))⟩
      · rw [List.mem_append, List.mem_singleton] at hm
        rcases hm with hm | hm
        · have := (h.rng k hm).2.1; have := hk.1; omega
        · exact hk.2.2 hm
      · injection e with e
        subst e
        show k ≠ g'
        rcases hat' with ⟨ad, e, e2⟩ | hlt
        · have := hab ad e; have := hk.1; omega
        · have := hk.2.1; omega
    · have hjb : j < bss.length := by rw [h.len]; omega
      have e : (bss ++ [bs])[j] = bss[j] := List.getElem_append_left hjb
      rw [e]
      obtain ⟨A', c', rt', hS'⟩ := h.sets j h1 hjb
      have hr := h.rng _ (List.getElem_mem hjb)
      refine ⟨A', c', rt', (hS'.step (fun k hk hlt => (hkeep k (by have := hk.2.1; omega) hk.2.2.2 (by have := hk.1; omega)).trans (hb.block k hlt)) ((hkeep _ (by omega) hr.2.2 (by omega)).trans (hb.block _ hr.2.1))).mono (fun k hk => ⟨hk.1, by rw [hsz4]; have := hk.2.1; omega, fun hm => ?_, fun ad e => ?_⟩) (fun hk => hk.2.2.1 (by simp))⟩
      · rw [List.mem_append, List.mem_singleton] at hm
        rcases hm with hm | hm
        · exact hk.2.2.1 hm
        · have := hk.2.1; omega
      · injection e with e
        subst e
        show k ≠ g'
        rcases hat' with ⟨ad, e, e2⟩ | hlt
        · rw [e2]; exact hk.2.2.2 ad e
        · have := hk.2.1; omega
  · rw [List.nodup_append]
    refine ⟨h.nd, by simp, fun a ha b hb' e => ?_⟩
    rw [List.mem_singleton] at hb'
    have := (h.rng a ha).2.1
    omega
  · intro b hb'
    have := hnb b hb'
    refine ⟨this.1, by rw [hsz4]; omega, fun ad e => ?_⟩
    injection e with e
    subst e
    exact this.2.2.1
end
def BegunR (okO : Nat → Prop) (W : World) (br wd : Nat) (os : List Tp) (e : Ending) (w' : World) : Prop :=
  e = .returned (.tuple #[]) ∧ KeptS (fun k => k = br) W w' ∧ ∃ m bss, W.heap.size ≤ m ∧ (∀ b ∈ bss, W.heap.size ≤ b) ∧ RelAt (fun k => (okO k ∧ k < W.heap.size) ∨ (W.heap.size ≤ k ∧ k ≠ m ∧ k ∉ bss)) w' br wd os [] m bss
theorem kn_row {w : World} {base n c : Nat} {bss : List Nat} {A : Option Addr} (h : w.ownsRow base 99 1 (.slice A n c) n (bss.map bp)) (hl : bss.length = n) : n ≤ c ∧ Kd.F KN w (fun k => ∃ ad, A = some ad ∧ k = ad.block) A n bss := by
  obtain ⟨A', c', e, hle, hF⟩ := rows_in (d := KN) (ok := fun _ => False) rfl h (Els.of (by simp) fun i hi hu => by rw [List.getElem_map]; exact nod_el _) hl.symm
  injection e with e1 e2 e3
  subst e1 e3
  rw [hl] at hle hF
  refine ⟨hle, Kd.F_mono hF fun k hk => ?_⟩
  rcases hk with hk | hk
  · exact hk.elim
  · cases A with
    | none => simp [Value.ownBlock] at hk
    | some ad => exact ⟨ad, rfl, by simpa [Value.ownBlock] using hk⟩
theorem BegI.done {okO : Nat → Prop} {W wr : World} {br wd m : Nat} {Ao : Option Addr} {co : Nat} {os : List Tp} {A : Option Addr} {c : Nat} {bss : List Nat} (h : BegI W br wd m Ao co os os.length A c bss wr) (hos : OsOk wd os) (hF : Kd.F KT W okO Ao os.length os) (hco : os.length ≤ co) (hn : ¬ okO br) :
    RelAt (fun k => (okO k ∧ k < W.heap.size) ∨ (W.heap.size ≤ k ∧ k ≠ m ∧ k ∉ bss)) wr br wd os [] m bss := by
  obtain ⟨hc, hK⟩ := kn_row h.own h.len
  have hme := h.me
  have hbrm := h.brm
  refine ⟨⟨Ao, co, A, c, h.hp, hco, hc, ?_, ?_⟩, hos, ⟨List.Pairwise.nil, by simp, by simp, by simp⟩, ⟨#[], 0, [], h.hm, rfl, by simp, rfl, fun _ => rfl⟩, h.len, ?_, h.nd, fun b hb => ⟨fun hk => ?_, ?_, ?_⟩, ⟨fun hk => ?_, by omega⟩, fun hk => ?_⟩
  · exact Kd.F_mono (Kd.F_step (Kd.F_bound hF) fun k hk hlt => h.kp.same k hlt (fun e => hn (e ▸ hk.1))) (fun k hk => .inl hk)
  · refine Kd.F_mono hK fun k hk => ?_
    obtain ⟨ad, e, rfl⟩ := hk
    have := h.ablk ad e
    exact .inr ⟨by omega, by omega, fun hm => (h.rng _ hm).2.2 ad e rfl⟩
  · intro j h1 h2
    obtain ⟨A', c', rt, hS⟩ := h.sets j h1 h2
    refine ⟨A', c', rt, _, hS.mono (fun k hk => .inr ⟨by have := hk.1; omega, by have := hk.1; omega, hk.2.2.1⟩) (fun hk => ?_), fun t => by rw [BT.io_mk]; simp [weave, keys]⟩
    have hm := List.getElem_mem h2
    rcases hk with hk | hk
    · have := (h.rng _ hm).1; have := hk.2; omega
    · exact hk.2.2 hm
  · rcases hk with hk | hk
    · have := (h.rng _ hb).1; have := hk.2; omega
    · exact hk.2.2 hb
  · have := (h.rng _ hb).1; omega
  · have := (h.rng _ hb).1; omega
  · rcases hk with hk | hk
    · exact hn hk.1
    · omega
  · rcases hk with hk | hk
    · omega
    · exact hk.2.1 rfl
set_option maxHeartbeats 8000000 in
set_option maxRecDepth 100000 in
theorem begin_calls {okO : Nat → Prop} {W : World} {br wd : Nat} {Ao : Option Addr} {co : Nat} {os : List Tp} {v3 v4 : Value} (hp : W.heap[br]? = some (.cells #[.bool true, .int .i64 (wd : Int), .slice Ao os.length co, v3, v4] 74 (0, 0))) (hos : OsOk wd os) (hF : Kd.F KT W okO Ao os.length os) (hco : os.length ≤ co) (hn : ¬ okO br) :
    Calls Tryz.prog 37 #[.pointer (some ⟨br, 0, none⟩)] W (BegunR okO W br wd os) := by
  have hlt : br < W.heap.size := (Array.getElem?_eq_some_iff.1 hp).1
  have hmm := @run_makeMap Tryz.prog
  obtain ⟨i0, hi0, hz0, hz1, hz2⟩ := info_parts infoS
  have HI := Aside0.mk (And.intro hi0 (And.intro hz0 (And.intro hz1 hz2)))
  have HOS := Aside0.mk (And.intro hos (And.intro hF (And.intro hco hn)))
  obtain ⟨on, hon⟩ : ∃ on, on = os.length := ⟨_, rfl⟩
  have HON := Aside0.mk hon
  have hon6 : (on : Int) ≤ 1000 := by have := hos.n; omega
  have f3 := Tup.free_of_heap hp 3
  have g3 : W.cell? ⟨br, 3, none⟩ = some v3 := (Tup.cell_of_heap hp 3).trans rfl
  have f4 := Tup.free_of_heap hp 4
  have g4 : W.cell? ⟨br, 4, none⟩ = some v4 := (Tup.cell_of_heap hp 4).trans rfl
  have c2 : W.cell? ⟨br, 2, none⟩ = some (.slice Ao on co) := (Tup.cell_of_heap hp 2).trans (by rw [hon]; rfl)
  have hb := heap_setCell_same _ br 3 _ _ (.slice none 0 0) hp
  have hc := heap_setCell_same _ br 4 _ _ (.map (some W.heap.size)) hb
  have hc' : (((W.setCell ⟨br, 3, none⟩ (.slice none 0 0)).setCell ⟨br, 4, none⟩ (.map (some W.heap.size))).alloc (.map #[] 0)).heap[br]? = some (.cells #[.bool true, .int .i64 (wd : Int), .slice Ao os.length co, .slice none 0 0, .map (some W.heap.size)] 74 (0, 0)) := (Below.heap_alloc _ _ _ (by simpa using hlt)).trans (by simpa using hc)
  have HB0 : Aside0 (BegI W br wd W.heap.size Ao co os 0 none 0 [] (((W.setCell ⟨br, 3, none⟩ (.slice none 0 0)).setCell ⟨br, 4, none⟩ (.map (some W.heap.size))).alloc (.map #[] 0))) := by
    have hk : ∀ k, k ≠ br → (((W.setCell ⟨br, 3, none⟩ (.slice none 0 0)).setCell ⟨br, 4, none⟩ (.map (some W.heap.size)))).heap[k]? = W.heap[k]? := fun k hk => by rw [Below.heap_setCell _ _ _ _ hk, Below.heap_setCell _ _ _ _ hk]
    have hz : (((W.setCell ⟨br, 3, none⟩ (.slice none 0 0)).setCell ⟨br, 4, none⟩ (.map (some W.heap.size)))).heap.size = W.heap.size := by simp
    exact ⟨⟨hc', by (have := heap_alloc_new (((W.setCell ⟨br, 3, none⟩ (.slice none 0 0)).setCell ⟨br, 4, none⟩ (.map (some W.heap.size)))) (.map #[] 0)); rw [hz] at this; exact this, World.ownsRow_nil _ _ _ _, rfl, ⟨rfl, rfl, rfl, by simp, fun k hk' hn => (Below.heap_alloc _ _ _ (by rw [hz]; exact hk')).trans (hk k hn)⟩, fun j h1 h2 => by simp at h2, List.nodup_nil, by simp, rfl, hlt⟩⟩
  clear hos hF hco hn hp hb hc hc' hi0 hz0 hz1 hz2 hon
  go_enter Tryz.func37, Tryz.ntmps37
  go_wp2
  obtain ⟨V, hV⟩ : ∃ V, V = ((W.setCell ⟨br, 3, none⟩ (.slice none 0 0)).setCell ⟨br, 4, none⟩ (.map (some W.heap.size))).alloc (.map #[] 0) := ⟨_, rfl⟩
  rw [← hV] at HB0 ⊢
  clear f3 g3 f4 g4 c2 hV hmm
  go_loopg [18] on (fun gk v18 wr => ∃ (k : Nat) (A : Option Addr) (c : Nat) (bss : List Nat), v18 = .int .i64 (k : Int) ∧ Aside0 (k + gk = on) ∧ Aside0 (BegI W br wd W.heap.size Ao co os k A c bss wr))
  case atStart => exact ⟨0, none, 0, [], rfl, ⟨by omega⟩, HB0⟩
  case round =>
    obtain ⟨k, A, c, bss, rfl, HK, HB⟩ := hrel
    clear HB0
    by_cases hk : k < on
    · have hkd : decide (k < on) = true := decide_eq_true hk
      have hki : (k : Int) < (on : Int) := by omega
      have hko : k < os.length := by rw [← HON.out]; exact hk
      obtain ⟨ad, Ai, ci, rfl, hcell, hsl⟩ := tup_at (Kd.F_now (Kd.F_step HOS.out.2.1 (W1 := wr) fun j hj hlt' => HB.out.kp.same j hlt' (fun e => HOS.out.2.2.2 (e ▸ hj)))) k hko
      obtain ⟨o, ho⟩ : ∃ o, o = os[k] := ⟨_, rfl⟩
      have HO := Aside0.mk ho
      rw [← ho] at hcell hsl
      have HNw := Aside0.mk (new_yes wr Ai ci o hsl (by rw [ho]; exact (HOS.out.1.each _ (List.getElem_mem hko)).1))
      clear hsl ho
      go_wp2_with (first
        | (go_at_call 63; refine HNw.out.mono ?_; clear HNw; rintro e w2 ⟨hb2, bs, A1, c1, rt, rfl, hbs, hS⟩; have HB2 := Aside0.mk hb2; have HS2 := Aside0.mk (And.intro hbs hS); have hp2 := (hb2.block br (Nat.lt_trans HB.out.brm HB.out.szm)).trans HB.out.hp; have c3 := pw_cell_below (below_alloc (Below.refl _ w2) (.cells #[bp bs] 99)) ((Tup.cell_of_heap hp2 3).trans rfl); have c3' := (Tup.cell_of_heap hp2 3).trans rfl; have HP2 := Aside0.mk hp2; have hown2 := Aside0.mk ((own_move HB.out.own fun j hj => hb2.block j (Tup.own_lt HB.out.own j hj.symm)).alloc (.cells #[bp bs] 99)); clear hb2 hbs hS hp2)
        | (at_builtin; go_loud (refine wpList_append_own_at _ rfl _ _ 71 rfl (W.heap.size + 1) 99 i0 (.pointer none) 1 8 Tryz.underlying71 HI.out.1 HI.out.2.1 HI.out.2.2.1 HI.out.2.2.2 rfl (by decide) (.slice A k c) k (bss.map bp) rfl hown2.out ⟨w2.heap.size, 0, none⟩ 1 1 [bp bs] rfl rfl (cell_one_new _ _ _) (by simp [Value.oneCell']) (by unfold maxLen; omega) (by omega) (by have := HB2.out.size; have := HB.out.szm; simp; omega) ?_; intro v' w3 hown3 hg3 _ hat3; obtain ⟨g', cap', rfl⟩ := ownsRow_succ hown3; have hM := HB.out.more hko HB2.out HS2.out.1 HO.out HS2.out.2 hown3 hg3 (hat3.imp id fun h => ⟨_, h, Nat.le_refl _⟩); have HM := Aside0.mk hM.1; have f3 := hM.2.1; have g3 := hM.2.2; clear hM hown3 hg3 hat3)))
      obtain ⟨g2, hg2⟩ : ∃ g2, g2 = gk - 1 := ⟨_, rfl⟩
      go_roundg g2
      case measure => have := HK.out; omega
      case rel => exact ⟨k + 1, _, _, _, by go_num, ⟨by have := HK.out; omega⟩, HM⟩
    · have hkd : decide (k < on) = false := decide_eq_false hk
      have hki : ¬ (k : Int) < (on : Int) := by omega
      have hke : k = os.length := by have := HK.out; have := HON.out; omega
      subst hke
      go_wp2
      go_end0
      exact ⟨rfl, HB.out.kp, _, _, Nat.le_refl _, fun b hb => by have := (HB.out.rng b hb).1; omega, HB.out.done HOS.out.1 HOS.out.2.1 HOS.out.2.2.1 HOS.out.2.2.2⟩
end Go.Proofs.YtcmllllbmgcnlaaGreat.Rl
end
section
namespace Go.Proofs.YtcmllllbmgcnlaaGreat.Rl
open Go.RowKit Go.Lib Go.Deep Go.Proofs.YtcmllllbmgcnlaaGreat.G Go.Proofs.YtcmllllbmgcnlaaGreat.Tup Go.Proofs.YtcmllllbmgcnlaaGreatW.PrintWords Go.Proofs.YtcmllllbmgcnlaaGreatW.PrintLast Go.Proofs.YtcmllllbmgcnlaaGreatW.PrintMore
open Go.Proofs.YtcmllllbmgcnlaaGreat.Ch (rwrongS OrdersR orders_calls Rw Ow ordOf ChainsOk)
set_option linter.unusedVariables false
set_option linter.unusedSimpArgs false
set_option maxHeartbeats 4000000 in
set_option maxRecDepth 100000 in
theorem rnew_no (W : World) (width : Int) (A : Option Addr) (c : Nat) (l : List Int) (h : Sl W A c l) (h0 : rwrongS width l ≠ 0) :
    Calls Tryz.prog 11 #[.int .i64 width, .slice A l.length c] W fun e w' => e = .returned (.tuple #[.pointer none, .int .i64 (rwrongS width l)]) ∧ Below W.heap.size W w' := by
  have hO := orders_calls width A c l W h
  obtain ⟨z, hz⟩ : ∃ z, z = rwrongS width l := ⟨_, rfl⟩
  rw [← hz] at h0 ⊢
  have hzd : (z == 0) = false := by simpa using h0
  have HZ := Aside0.mk (And.intro hz h0)
  clear h hz h0
  go_enter Tryz.func11, Tryz.ntmps11
  go_wp2_with (go_at_call 35; refine hO.mono ?_; clear hO; rintro e w1 ⟨v, y, rfl, hy, hb1, hor⟩; obtain rfl : y = z := hy.trans HZ.out.1.symm; obtain rfl : v = .slice none 0 0 := (hor.resolve_right fun h => HZ.out.2 h.1).2; have HB1 := Aside0.mk hb1; clear hb1 hor hy)
  go_ret2
  exact ⟨rfl, HB1.out⟩
theorem el_own {W : World} {base : Nat} {v : Value} {t : Tp} (h : Ow W base v t) : El KT W (fun k => base ≤ k ∧ k < W.heap.size) t v := by
  obtain ⟨A', c', e, hle, hF⟩ := rows_in (d := Kd.int .i64) (ok := fun _ => False) rfl h (Els.of (by simp) fun i hi hu => by rw [List.getElem_map]; exact fun W' _ => rfl) rfl
  subst e
  exact tup_el hle (Kd.F_mono hF fun k hk => hk.elim False.elim fun hk => ⟨own_ge h k hk, Tup.own_lt h k hk⟩)
theorem el_plain {W : World} {g n : Nat} (h : W.rowIs g 3 n (fun i => .int .i64 (i : Int))) (hn : n ≤ 1000) : El KT W (fun k => k = g) (plainO n) (.slice (some ⟨g, 0, none⟩) n n) := by
  obtain ⟨cs, hg, hs, hi⟩ := h
  have : Ow W 0 (.slice (some ⟨g, 0, none⟩) n n) (plainO n) := by
    refine ⟨by simp [plainO], .inr ⟨g, n, cs, by rw [plainO_len], Nat.zero_le _, hg, by rw [plainO_len]; exact Nat.le_refl _, by unfold maxLen; omega, by omega, ?_⟩⟩
    rw [plainO_len, Nat.mul_one]
    refine List.ext_getElem (by simp [plainO, hs]) fun i h1 h2 => ?_
    have hi' : i < n := by simp [plainO] at h2; exact h2
    have := hi i hi'
    rw [← Array.getElem?_toList] at this
    have h3 := (List.getElem?_eq_some_iff.1 this).2
    simp [plainO, h3]
  obtain ⟨A', c', e, hle, hF⟩ := rows_in (d := Kd.int .i64) (ok := fun _ => False) rfl this (Els.of (by simp) fun i hi hu => by rw [List.getElem_map]; exact fun W' _ => rfl) rfl
  rw [plainO_len] at e
  injection e with e1 e2 e3
  subst e1 e3
  have := tup_el hle hF
  rw [plainO_len] at this
  exact this.mono fun k hk => hk.elim False.elim fun hk => by simpa [Value.ownBlock] using hk
theorem infoT : (Tryz.prog.info? 23).map (fun i => (i.zero, i.size, i.bytes)) = some (some (.slice none 0 0), 1, 24) := by kernel_rfl
theorem least_pos {l : List Int} {n : Nat} (h : Go.Proofs.YtcmllllbmgcnlaaGreat.Ch.LeastIs l n) : 0 < n := by
  obtain ⟨u, m, _, _, _, rfl⟩ := h
  omega
def MadeR (W : World) (width : Int) (e : Ending) (w' : World) : Prop :=
  ∃ br wd os m bss, width = (wd : Nat) ∧ e = .returned (.tuple #[.pointer (some ⟨br, 0, none⟩), .int .i64 0]) ∧ Below W.heap.size W w' ∧ W.heap.size ≤ br ∧ W.heap.size ≤ m ∧ (∀ b ∈ bss, W.heap.size ≤ b) ∧ RelAt (fun k => W.heap.size ≤ k ∧ k ≠ br ∧ k ≠ m ∧ k ∉ bss) w' br wd os [] m bss
theorem orders_os {wd : Nat} {l : List Int} {rows : List (List Int)} (h8 : wd ≤ 8) (hy : Go.Proofs.YtcmllllbmgcnlaaGreat.Ch.wrongS wd l = 0) (h : ChainsOk l rows) (hr : rows.length ≤ 257) : OsOk wd (plainO wd :: rows.map (ordOf wd)) := by
  obtain ⟨_, h2⟩ := Go.Proofs.YtcmllllbmgcnlaaGreat.Ch.good_wrong h8 hy
  have hs := Go.Proofs.YtcmllllbmgcnlaaGreat.Ch.orders_serve h8 h2 h
  refine ⟨h8, by simp; omega, rfl, fun o ho => ?_⟩
  rcases List.mem_cons.1 ho with rfl | ho
  · exact ⟨plainO_rt h8, plainO_len wd⟩
  · have := hs.2.1 o ho
    exact ⟨this.2, this.1⟩
theorem orders_row {W w1 w2 wa w3 : World} {wd : Nat} {v : Value} {ovs : List Value} {rows : List (List Int)} {g' cap' n : Nat} (h8 : wd ≤ 8) (hRw : Rw w1 W.heap.size v ovs rows) (hb1 : Below W.heap.size W w1) (hb2 : Below w1.heap.size w1 w2) (hp : w2.rowIs w1.heap.size 3 wd (fun i => .int .i64 (i : Int))) (hwa : wa = w2.alloc (.cells #[.slice (some ⟨w1.heap.size, 0, none⟩) wd wd] 23)) (hg : wa.grownBy w3 (some w2.heap.size))
    (ho : w3.ownsRow w2.heap.size 23 1 (.slice (some ⟨g', 0, none⟩) n cap') n ([.slice (some ⟨w1.heap.size, 0, none⟩) wd wd] ++ ovs)) (hn : n = 1 + rows.length) :
    n ≤ cap' ∧ Kd.F KT w3 (fun k => W.heap.size ≤ k ∧ k < w3.heap.size) (some ⟨g', 0, none⟩) n (plainO wd :: rows) := by
  have hs1 := hb1.size
  have hs2 := hb2.size
  have hsa : wa.heap.size = w2.heap.size + 1 := by rw [hwa]; simp
  have hs3 := hg.size
  have hk : ∀ k, k < w2.heap.size → w3.heap[k]? = w2.heap[k]? := fun k hk => by
    rw [hg.block k (by omega) (fun e => by injection e with e; omega), hwa, Below.heap_alloc _ _ _ hk]
  obtain ⟨cs, hp1, hp2, hp3⟩ := hp
  have hpl : w1.heap.size < w2.heap.size := (Array.getElem?_eq_some_iff.1 hp1).1
  have hE : Els (El KT w3 (fun k => W.heap.size ≤ k ∧ k < w3.heap.size)) (plainO wd :: rows) ([.slice (some ⟨w1.heap.size, 0, none⟩) wd wd] ++ ovs) := by
    refine .cons ((el_plain (g := w1.heap.size) ⟨cs, (hk _ hpl).trans hp1, hp2, hp3⟩ (by omega)).mono fun k e => ⟨by omega, by omega⟩) ?_
    show Els _ rows ovs
    refine Els.of hRw.len fun i hi hu => ?_
    exact ((el_own (hRw.els i hu hi)).step (W1 := w3) fun k hk' hlt => (hk k (by omega)).trans (hb2.block k hlt)).mono fun k hk' => ⟨hk'.1, by omega⟩
  obtain ⟨A', c', e, hle, hF⟩ := rows_in rfl ho hE (by simp [hn]; omega)
  injection e with e1 e2 e3
  subst e1 e3
  have hl : (plainO wd :: rows).length = n := by simp [hn]; omega
  rw [hl] at hle hF
  exact ⟨hle, Kd.F_mono hF fun k hk => hk.elim id fun hk => ⟨by have := own_ge ho k hk; omega, Tup.own_lt ho k hk⟩⟩
theorem rw_slice {w : World} {base : Nat} {v : Value} {ovs : List Value} {rows : List (List Int)} (h : Rw w base v ovs rows) (hp : 0 < rows.length) : ∃ g c, v = .slice (some ⟨g, 0, none⟩) rows.length c ∧ ovs.length = rows.length ∧ (∀ w', Below w.heap.size w w' → ∀ j u, ovs[j]? = some u → w'.cell? ((⟨g, 0, none⟩ : Addr).add j) = some u) ∧ ∀ u ∈ ovs, u.oneCell' = true := by
  have hlen := h.len
  have ho := h.own
  rcases ho.2 with ⟨_, h0⟩ | ⟨g, cap, cur, rfl, hbg, hg, _⟩
  · omega
  · refine ⟨g, cap, by rw [hlen], hlen, fun w' hb j u hj => ?_, fun u hu => ?_⟩
    · obtain ⟨hjl, rfl⟩ := List.getElem?_eq_some_iff.1 hj
      have := ho.cellAt j (by omega)
      rw [Addr.add_lit, Nat.zero_add]
      exact pw_cell_below hb (this.trans (List.getElem?_eq_getElem _))
    · obtain ⟨r, hr⟩ := h.mem u hu
      obtain ⟨A', c', e, _⟩ := Go.Proofs.YtcmllllbmgcnlaaGreat.Ch.ow_slice hr
      rw [e]; rfl
theorem wrong_of {wd : Nat} (h8 : wd ≤ 8) {l : List Int} (h : rwrongS (wd : Int) l = 0) : Go.Proofs.YtcmllllbmgcnlaaGreat.Ch.wrongS wd l = 0 := by
  unfold Go.Proofs.YtcmllllbmgcnlaaGreat.Ch.rwrongS at h
  rw [if_neg (by omega)] at h
  exact h
def OrdF (W w1 : World) (l : List Int) (wd g rn cv : Nat) (ovs : List Value) (rows : List (List Int)) : Prop :=
  ChainsOk l rows ∧ Rw w1 W.heap.size (.slice (some ⟨g, 0, none⟩) rn cv) ovs (rows.map (ordOf wd)) ∧ rows.length ≤ 257 ∧ ovs.length = rn ∧ (∀ w', Below w1.heap.size w1 w' → ∀ j u, ovs[j]? = some u → w'.cell? ((⟨g, 0, none⟩ : Addr).add j) = some u) ∧ (∀ u ∈ ovs, u.oneCell' = true) ∧ rn = rows.length
theorem orders_yes (W : World) (width : Int) (A : Option Addr) (c : Nat) (l : List Int) (h : Sl W A c l) (h0 : rwrongS width l = 0) :
    Calls Tryz.prog 35 #[.int .i64 width, .slice A l.length c] W fun e w1 => ∃ wd g rn cv ovs rows, width = (wd : Nat) ∧ wd ≤ 8 ∧ e = .returned (.tuple #[.slice (some ⟨g, 0, none⟩) rn cv, .int .i64 0]) ∧ Below W.heap.size W w1 ∧ rn ≤ 257 ∧ OrdF W w1 l wd g rn cv ovs rows := by
  refine (orders_calls width A c l W h).mono ?_
  rintro e w1 ⟨v, y, rfl, hy, hb1, hor⟩
  rw [h0] at hy
  subst hy
  obtain ⟨wd, ovs, rows, rfl, h8, hch, hrw, h257⟩ := (hor.resolve_left (fun h => h.1 rfl)).2
  obtain ⟨g, cv, rfl, hol, hcl, h1c⟩ := rw_slice hrw (by rw [List.length_map]; exact least_pos hch.least)
  rw [List.length_map] at hrw hol ⊢
  exact ⟨wd, g, rows.length, cv, ovs, rows, rfl, h8, rfl, hb1, h257, hch, hrw, h257, hol, hcl, h1c, rfl⟩
set_option maxHeartbeats 8000000 in
set_option maxRecDepth 100000 in
theorem rnew_yes (W : World) (width : Int) (A : Option Addr) (c : Nat) (l : List Int) (h : Sl W A c l) (h0 : rwrongS width l = 0) :
    Calls Tryz.prog 11 #[.int .i64 width, .slice A l.length c] W (MadeR W width) := by
  have hO := orders_yes W width A c l h h0
  have HZ := Aside0.mk h0
  obtain ⟨i0, hi0, hz0, hz1, hz2⟩ := info_parts infoT
  have HI := Aside0.mk (And.intro hi0 (And.intro hz0 (And.intro hz1 hz2)))
  clear h h0 hi0 hz0 hz1 hz2
  go_enter Tryz.func11, Tryz.ntmps11
  go_wp2_with (first
    | (go_at_call 35; go_loud (refine hO.mono ?_; clear hO; rintro e w1 ⟨wd, g, rn, cv, ovs, rows, rfl, h8, rfl, hb1, hrn2, hch⟩; have HB1 := Aside0.mk hb1; have HCH := Aside0.mk hch; have HPl := Aside0.mk (plain_calls w1 wd (by omega)); clear hb1 hch))
    | (go_at_call 36; refine HPl.out.mono ?_; rintro e w2 ⟨rfl, hb2, hp2⟩; have HB2 := Aside0.mk hb2; have HP2 := Aside0.mk hp2; clear hb2 hp2)
    | (at_builtin; go_loud (refine wpList_append_own_at _ rfl _ _ 44 rfl w2.heap.size 23 i0 (.slice none 0 0) 1 24 Tryz.underlying44 HI.out.1 HI.out.2.1 HI.out.2.2.1 HI.out.2.2.2 rfl (by decide) (.slice (some ⟨w2.heap.size, 0, none⟩) 1 1) 1 [.slice (some ⟨w1.heap.size, 0, none⟩) wd wd] rfl ⟨rfl, .inr ⟨w2.heap.size, 1, #[.slice (some ⟨w1.heap.size, 0, none⟩) wd wd], rfl, Nat.le_refl _, heap_alloc_new _ _, Nat.le_refl _, by decide, rfl, rfl⟩⟩ ⟨g, 0, none⟩ rn cv ovs rfl (by rw [Nat.mul_one]; exact HCH.out.2.2.2.1) (HCH.out.2.2.2.2.1 _ ((Since.mk HB2.out).alloc _).b) HCH.out.2.2.2.2.2.1 (by unfold maxLen; omega) (by omega) (by simp) ?_; intro v' w3 hown3 hg3 _ _; rw [Nat.add_comm 1 rn] at hown3; obtain ⟨g', cap', rfl⟩ := ownsRow_succ hown3; have HG3 := Aside0.mk hg3; have HO3 := Aside0.mk (orders_row h8 HCH.out.2.1 HB1.out HB2.out HP2.out rfl hg3 hown3 (by rw [List.length_map, ← HCH.out.2.2.2.2.2.2]; omega)); clear hown3 hg3))
    | (go_at_call 37; go_loud (have hW1 := HB1.out.size; have hW2 := HB2.out.size; have hW3 := HG3.out.size; refine (begin_calls (okO := fun k => W.heap.size ≤ k ∧ k < w3.heap.size) (os := plainO wd :: rows.map (ordOf wd)) (wd := wd) (Ao := some ⟨g', 0, none⟩) (co := cap') (by rw [show (plainO wd :: rows.map (ordOf wd)).length = rn + 1 from by simp [HCH.out.2.2.2.2.2.2]]; exact heap_alloc_new w3 _) (orders_os h8 (Go.Proofs.YtcmllllbmgcnlaaGreat.Rl.wrong_of h8 HZ.out) HCH.out.1 HCH.out.2.2.1) (by rw [show (plainO wd :: rows.map (ordOf wd)).length = rn + 1 from by simp [HCH.out.2.2.2.2.2.2]]; exact Kd.F_below HO3.out.2 (below_alloc (Below.refl _ _) _)) (by rw [show (plainO wd :: rows.map (ordOf wd)).length = rn + 1 from by simp [HCH.out.2.2.2.2.2.2]]; exact HO3.out.1) (fun h => by omega)).mono ?_; rintro e w5 ⟨rfl, hk5, m, bss, hm5, hb5, hR5⟩; have HR5 := Aside0.mk (And.intro hk5 (And.intro hm5 (And.intro hb5 hR5))); clear hk5 hm5 hb5 hR5)))
  go_ret2
  have hW1 := HB1.out.size
  have hW2 := HB2.out.size
  have hW3 := HG3.out.size
  simp at hW3
  obtain ⟨hk5, hm5, hb5, hR5⟩ := HR5.out
  have hsz : (w3.alloc (.cells #[.bool true, .int .i64 (wd : Int), .slice (some ⟨g', 0, none⟩) (rn + 1) cap', .slice none 0 0, .map none] 74)).heap.size = w3.heap.size + 1 := by simp
  have hb3 : Below W.heap.size W (w3.alloc (.cells #[.bool true, .int .i64 (wd : Int), .slice (some ⟨g', 0, none⟩) (rn + 1) cap', .slice none 0 0, .map none] 74)) := by
    have b2 := below_then HB1.out hW1 HB2.out
    have b3 := below_alloc b2 (.cells #[.slice (some ⟨w1.heap.size, 0, none⟩) wd wd] 23)
    exact below_alloc (b3.grown HG3.out (by simp; omega) fun j e => by
      have e' : w2.heap.size = j := by simpa [Value.ownBlock] using e
      omega) _
  refine ⟨w3.heap.size, wd, _, m, bss, rfl, rfl, hk5.below_of hb3 (fun k hk e => by omega), by omega, by omega, fun b hb => by have := hb5 b hb; omega, hR5.mono (fun k hk => ?_) (fun h => h.2.1 rfl) (fun h => h.2.2.1 rfl) (fun b hb h => h.2.2.2 hb)⟩
  rcases hk with hk | hk
  · exact ⟨hk.1.1, by have := hk.1.2; omega, by have := hk.1.2; omega, fun h => by have := hb5 k h; have := hk.1.2; omega⟩
  · exact ⟨by omega, by have := hk.1; omega, hk.2.1, hk.2.2⟩
end Go.Proofs.YtcmllllbmgcnlaaGreat.Rl
end
section
namespace Go.Proofs.YtcmllllbmgcnlaaGreat.Rl
open Go.RowKit Go.Lib Go.Shelf Go.Proofs.YtcmllllbmgcnlaaGreat.G Go.Proofs.YtcmllllbmgcnlaaGreat.Tup Go.Proofs.YtcmllllbmgcnlaaGreatW.PrintWords Go.Proofs.YtcmllllbmgcnlaaGreatW.PrintLast Go.Proofs.YtcmllllbmgcnlaaGreatW.PrintMore
open Go.Proofs.YtcmllllbmgcnlaaGreat.Ch (rwrongS pickS pickS_some)
set_option linter.unusedVariables false
set_option linter.unusedSimpArgs false
theorem sl_heap {W : World} {g : Nat} {cs : Array Value} {l : List Int} (h : W.heap[g]? = some (.cells cs 3 (0, 0))) (e : cs.toList = l.map (Value.int .i64)) (hn : l.length ≤ 1000000) : Kd.F (Kd.int .i64) W (fun k => k = g) (some ⟨g, 0, none⟩) l.length l := by
  have ho : W.ownsRow 0 3 1 (.slice (some ⟨g, 0, none⟩) l.length l.length) l.length (l.map (Value.int .i64)) :=
    ⟨by simp, .inr ⟨g, l.length, cs, rfl, Nat.zero_le _, h, Nat.le_refl _, by unfold maxLen; omega, by have := congrArg List.length e; simp at this; simp [this], by rw [e]; exact List.take_of_length_le (by simp)⟩⟩
  obtain ⟨A', c', e', hle, hF⟩ := rows_in (d := Kd.int .i64) (ok := fun _ => False) rfl ho (Els.of (by simp) fun i hi hu => by rw [List.getElem_map]; exact fun W' _ => rfl) rfl
  injection e' with e1 e2 e3
  subst e1
  exact Kd.F_mono hF fun k hk => hk.elim False.elim fun hk => by simpa [Value.ownBlock] using hk
theorem sl2_new (W : World) (a b : Int) : Sl (W.alloc (.cells #[.int .i64 a, .int .i64 b] 3)) (some ⟨W.heap.size, 0, none⟩) 2 [a, b] :=
  ⟨Kd.F_now (sl_heap (l := [a, b]) (heap_alloc_new W _) rfl (by simp)), Nat.le_refl _⟩
theorem sl1_new (W : World) (a : Int) : Sl (W.alloc (.cells #[.int .i64 a] 3)) (some ⟨W.heap.size, 0, none⟩) 1 [a] :=
  ⟨Kd.F_now (sl_heap (l := [a]) (heap_alloc_new W _) rfl (by simp)), Nat.le_refl _⟩
theorem sl2_kept {W w' : World} {S : Nat → Prop} (a b : Int) (hS : ¬ S W.heap.size) (h : KeptS S (W.alloc (.cells #[.int .i64 a, .int .i64 b] 3)) w') : Sl w' (some ⟨W.heap.size, 0, none⟩) 2 [a, b] :=
  ⟨Kd.F_now (sl_heap (l := [a, b]) ((h.same W.heap.size (by simp) hS).trans (heap_alloc_new W _)) rfl (by simp)), Nat.le_refl _⟩
theorem bits1 : nf 1 = 4607182418800017408 := by decide
theorem bits2 : nf 2 = 4611686018427387904 := by decide
theorem bits3 : nf 3 = 4613937818241073152 := by decide
theorem bits9 : nf 9 = 4621256167635550208 := by decide
theorem alive_put1 : putC 2 [] [1, 2] 4613937818241073152 4607182418800017408 = ([([1, 2], (3, 1))], true, 0) := by
  rw [← bits1, ← bits3]
  unfold putC
  rw [heightF_nf (by decide) (by decide)]
  decide
theorem alive_put2 : putC 2 [([1, 2], (3, 1))] [1, 2] 4611686018427387904 4621256167635550208 = ([([1, 2], (2, 9))], false, 0) := by
  rw [← bits2, ← bits9]
  unfold putC
  rw [heightF_nf (by decide) (by decide)]
  decide
theorem alive_served {os : List Tp} (h : OsOk 2 os) : (pickS 1 0 os).2 = true :=
  pickS_some os 0 ⟨plainO 2, List.mem_of_getElem? h.hd, by decide⟩
theorem kr_lit {W : World} {g h : Nat} {a b : Int} {n1 n2 : Int} (h1 : W.heap[g]? = some (.cells #[.int .i64 a, .int .i64 b] 3 (0, 0))) (h2 : W.heap[h]? = some (.cells #[.slice (some ⟨g, 0, none⟩) 2 2, .int .i64 n1, .int .i64 n2] 61 (0, 0))) : Kd.C KR W (some ⟨h, 0, none⟩) 1 [([a, b], (n1, n2))] := by
  have ho : W.ownsRow 0 61 3 (.slice (some ⟨h, 0, none⟩) 1 1) 1 ([(⟨some ⟨g, 0, none⟩, 2, [a, b], (n1, n2)⟩ : Elt)].flatMap Elt.enc3) :=
    ⟨rfl, .inr ⟨h, 1, _, rfl, Nat.zero_le _, h2, Nat.le_refl _, by decide, rfl, rfl⟩⟩
  have ha : (⟨some ⟨g, 0, none⟩, 2, [a, b], (n1, n2)⟩ : Elt).At W 0 := ⟨rfl, .inr ⟨g, 2, _, rfl, Nat.zero_le _, h1, Nat.le_refl _, by decide, rfl, rfl⟩⟩
  exact Kd.F_now (rows3 (base := 0) ho rfl (fun e he => by rw [List.mem_singleton] at he; subst he; exact ha)).2
structure AlvI (W : World) (br m : Nat) (bss : List Nat) (os : List Tp) (ok : Nat → Prop) (R : List Row) (w : World) : Prop where
  rel : RelAt ok w br 2 os R m bss
  b : Below W.heap.size W w
  new : W.heap.size ≤ m ∧ ∀ b ∈ bss, W.heap.size ≤ b
theorem AlvI.put {W w w' : World} {br m : Nat} {bss : List Nat} {os : List Tp} {ok : Nat → Prop} {R : List Row} {C : List Row × Bool × Int} {e : Ending} (h : AlvI W br m bss os ok R w) (hp : PutR ok w br 2 os m bss C e w') : AlvI W br m bss os (Plus ok w.heap.size) C.1 w' :=
  ⟨hp.2.1, hp.2.2.below_of h.b (fun k hk hS => hS.elim (fun e => by have := h.new.1; omega) (fun hm => by have := h.new.2 k hm; omega)), h.new⟩
theorem AlvI.below {W w w' : World} {br m : Nat} {bss : List Nat} {os : List Tp} {ok : Nat → Prop} {R : List Row} (h : AlvI W br m bss os ok R w) (hb : Below w.heap.size w w') : AlvI W br m bss os ok R w' :=
  ⟨h.rel.below hb, below_then h.b h.b.size hb, h.new⟩
theorem AlvI.fresh {W w : World} {br m : Nat} {bss : List Nat} {os : List Tp} {ok : Nat → Prop} {R : List Row} (h : AlvI W br m bss os ok R w) : ¬ (w.heap.size = m ∨ w.heap.size ∈ bss) := fun hS =>
  hS.elim (fun e => by have := h.rel.map.lt; omega) (fun hm => by have := h.rel.blt _ hm; omega)
theorem made2 {W : World} {e : Ending} {w' : World} (h : MadeR W 2 e w') : ∃ br os m bss, e = .returned (.tuple #[.pointer (some ⟨br, 0, none⟩), .int .i64 0]) ∧ ∃ ok, AlvI W br m bss os ok [] w' := by
  obtain ⟨br, wd, os, m, bss, hwd, rfl, hb, h1, h2, h3, hR⟩ := h
  obtain rfl : wd = 2 := by omega
  exact ⟨br, os, m, bss, rfl, _, hR, hb, h2, h3⟩
theorem alv_put {W w : World} {br m : Nat} {bss : List Nat} {os : List Tp} {ok : Nat → Prop} {R : List Row} (h : AlvI W br m bss os ok R w) (x y : Nat) (a b : Int) :
    Calls Tryz.prog 13 #[.pointer (some ⟨br, 0, none⟩), .complex .f64 x y, .slice (some ⟨w.heap.size, 0, none⟩) 2 2] (w.alloc (.cells #[.int .i64 a, .int .i64 b] 3)) fun e w' => e = .returned (.tuple #[.bool (putC 2 R [a, b] x y).2.1, .int .i64 (putC 2 R [a, b] x y).2.2]) ∧ ∃ ok', AlvI W br m bss os ok' (putC 2 R [a, b] x y).1 w' := by
  have h1 := h.below (below_alloc (Below.refl _ w) (.cells #[.int .i64 a, .int .i64 b] 3))
  refine Calls.mono (rput_calls h1.rel x y (some ⟨w.heap.size, 0, none⟩) 2 [a, b] (fun w' hk => sl2_kept a b h.fresh hk)) ?_
  intro e w' hp
  exact ⟨hp.1, _, h1.put hp⟩
theorem alv_note {W w : World} {br m : Nat} {bss : List Nat} {os : List Tp} {ok : Nat → Prop} {R : List Row} (h : AlvI W br m bss os ok R w) (a b : Int) :
    Calls Tryz.prog 24 #[.pointer (some ⟨br, 0, none⟩), .slice (some ⟨w.heap.size, 0, none⟩) 2 2] (w.alloc (.cells #[.int .i64 a, .int .i64 b] 3)) fun e w' => e = .returned (.tuple #[noteOf (lookF R [a, b]), .bool (lookF R [a, b]).isSome]) ∧ AlvI W br m bss os ok R w' := by
  have h1 := h.below (below_alloc (Below.refl _ w) (.cells #[.int .i64 a, .int .i64 b] 3))
  refine Calls.mono (rnote_calls h1.rel (some ⟨w.heap.size, 0, none⟩) 2 [a, b] (sl2_new w a b)) ?_
  rintro e w' ⟨rfl, hb⟩
  exact ⟨rfl, h1.below hb⟩
theorem alv_find {W w : World} {br m : Nat} {bss : List Nat} {os : List Tp} {ok : Nat → Prop} {R : List Row} (h : AlvI W br m bss os ok R w) (a b : Int) (hsv : (pickS 1 0 os).2 = true) :
    Calls Tryz.prog 22 #[.pointer (some ⟨br, 0, none⟩), .int .i64 1, .slice (some ⟨w.heap.size, 0, none⟩) 2 2] (w.alloc (.cells #[.int .i64 a, .int .i64 b] 3)) fun e w' => ∃ q1 q2 q3, e = .returned (.func (.func 45) #[] #[.pointer (some ⟨q1, 0, none⟩), .pointer (some ⟨q2, 0, none⟩), .pointer (some ⟨q3, 0, none⟩)]) ∧ AlvI W br m bss os ok R w' ∧ Seq2R Fence.wide Tryz.prog 45 #[.pointer (some ⟨q1, 0, none⟩), .pointer (some ⟨q2, 0, none⟩), .pointer (some ⟨q3, 0, none⟩)] (findL 2 R 1 [a, b]) w' := by
  have h1 := h.below (below_alloc (Below.refl _ w) (.cells #[.int .i64 a, .int .i64 b] 3))
  refine Calls.mono (rfind_calls _ (some ⟨br, 0, none⟩) 1 (some ⟨w.heap.size, 0, none⟩) 2 [a, b] (sl2_new w a b) (by simp)) ?_
  rintro e w' ⟨q1, q2, q3, Ak, ck, rfl, e1, e2, e3, hck, hF, hb⟩
  have h2 := h1.below hb
  exact ⟨q1, q2, q3, rfl, h2, rfind_served h2.rel q1 q2 q3 e1 1 e2 Ak ck [a, b] e3 ⟨Kd.F_now hF, hck⟩ rfl (by decide) (by decide) hsv⟩
theorem alv_walked (w : World) (q1 q2 q3 : Value) (h : Seq2R Fence.wide Tryz.prog 45 #[q1, q2, q3] (findL 2 [([1, 2], (2, 9))] 1 [1, 0]) w) :
    Calls Tryz.prog 28 #[.func (.func 45) #[] #[q1, q2, q3], .slice (some ⟨w.heap.size + 1, 0, none⟩) 1 1] ((w.alloc (.cells #[.int .i64 1, .int .i64 2] 3)).alloc (.cells #[.slice (some ⟨w.heap.size, 0, none⟩) 2 2, .int .i64 2, .int .i64 9] 61)) fun e w' => e = .returned (.bool true) ∧ Below w.heap.size w w' := by
  have hb : Below w.heap.size w ((w.alloc (.cells #[.int .i64 1, .int .i64 2] 3)).alloc (.cells #[.slice (some ⟨w.heap.size, 0, none⟩) 2 2, .int .i64 2, .int .i64 9] 61)) := below_alloc (below_alloc (Below.refl _ _) _) _
  have e : findL 2 [([1, 2], (2, 9))] 1 [1, 0] = [([1, 2], (2, 9))] := by decide
  rw [e] at h
  have g1 : ((w.alloc (.cells #[.int .i64 1, .int .i64 2] 3)).alloc (.cells #[.slice (some ⟨w.heap.size, 0, none⟩) 2 2, .int .i64 2, .int .i64 9] 61)).heap[w.heap.size]? = some (.cells #[.int .i64 1, .int .i64 2] 3 (0, 0)) := blk (below_alloc (Below.refl _ _) _) (heap_alloc_new w _)
  have g2 := heap_alloc_new (w.alloc (.cells #[.int .i64 1, .int .i64 2] 3)) (.cells #[.slice (some ⟨w.heap.size, 0, none⟩) 2 2, .int .i64 2, .int .i64 9] 61)
  rw [World.size_alloc] at g2
  refine Calls.mono (walked_calls _ 45 _ find_enters [([1, 2], (2, 9))] (by decide) (by decide) (by decide) (seq2R_later h hb) (some ⟨w.heap.size + 1, 0, none⟩) 1 [([1, 2], (2, 9))] (kr_lit g1 g2)) ?_
  rintro e w' ⟨rfl, hb2⟩
  exact ⟨rfl, below_then hb hb.size hb2⟩
set_option maxHeartbeats 16000000 in
set_option maxRecDepth 100000 in
theorem alive_calls (W : World) : Calls Tryz.prog 12 #[] W fun e w' => e = .returned (.bool true) ∧ Below W.heap.size W w' := by
  have b1 : Below W.heap.size W (W.alloc (.cells #[.int .i64 1] 3)) := below_alloc (Below.refl _ _) _
  have HB1 := Aside0.mk b1
  have HN := Aside0.mk (rnew_yes _ 2 _ 1 [1] (sl1_new W 1) (by decide))
  have f2 : FloatKind.f64.format.order 4611686018427387904 4611686018427387904 = some .eq := by decide
  have f9 : FloatKind.f64.format.order 4621256167635550208 4621256167635550208 = some .eq := by decide
  have E4 : Aside0 (noteOf (lookF [([1, 2], (2, 9))] [1, 2]) = .complex .f64 4611686018427387904 4621256167635550208) := ⟨by rw [← bits2, ← bits9]; rfl⟩
  clear b1
  go_enter Tryz.func12, Tryz.ntmps12
  go_wp2_with (first
    | (go_at_call 11; refine HN.out.mono ?_; clear HN; rintro e w1 hm; obtain ⟨br, os, m, bss, rfl, ok, hA⟩ := made2 hm; have HSV := Aside0.mk (alive_served hA.rel.hos); have HA1 := Aside0.mk hA; have HP1 := Aside0.mk (alv_put hA 4613937818241073152 4607182418800017408 1 2); rw [alive_put1] at HP1; clear hm hA)
    | (go_at_call 13; ((with_reducible refine HP1.out.mono ?_)); clear HP1; rintro e w2 ⟨rfl, ok2, hA⟩; have HA2 := Aside0.mk hA; have HP2 := Aside0.mk (alv_put hA 4611686018427387904 4621256167635550208 1 2); rw [alive_put2] at HP2; clear hA)
    | (go_at_call 13; ((with_reducible refine HP2.out.mono ?_)); clear HP2; rintro e w3 ⟨rfl, ok3, hA⟩; have HA3 := Aside0.mk hA; have HQ := Aside0.mk (alv_note hA 1 2); rw [E4.out] at HQ; clear hA)
    | (go_at_call 24; refine HQ.out.mono ?_; clear HQ; rintro e w4 ⟨rfl, hA⟩; have HA4 := Aside0.mk hA; have HL := Aside0.mk (rlen_calls hA.rel); have HF := Aside0.mk (alv_find hA 1 0 HSV.out); clear hA)
    | (go_at_call 15; refine HL.out.mono ?_; clear HL; rintro e w5 ⟨rfl, rfl⟩)
    | (go_at_call 22; refine HF.out.mono ?_; clear HF; rintro e w6 ⟨q1, q2, q3, rfl, hA, hsq⟩; have HA6 := Aside0.mk hA; have HW := Aside0.mk (alv_walked w6 _ _ _ hsq); clear hA hsq)
    | (go_at_call 28; refine HW.out.mono ?_; clear HW; rintro e w7 ⟨rfl, hb7⟩; have HB7 := Aside0.mk hb7; clear hb7))
  go_ret
  exact ⟨rfl, below_then HB1.out HB1.out.size (HA6.out.below HB7.out).b⟩
end Go.Proofs.YtcmllllbmgcnlaaGreat.Rl
end
