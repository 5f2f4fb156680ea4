/- Own texts, joined and cut to what the claim stands on: RlPut2, RlBegin. -/
import Derived.Test.YtcmllllbmgcnlaaGreatQ22
section
namespace Go.Proofs.YtcmllllbmgcnlaaGreat.Rl
open Go.RowKit Go.Lib Go.Deep Go.Proofs.YtcmllllbmgcnlaaGreat.G Go.Proofs.YtcmllllbmgcnlaaGreat.Tup Go.Proofs.YtcmllllbmgcnlaaGreatW.PrintWords Go.Proofs.YtcmllllbmgcnlaaGreatW.PrintLast Go.Proofs.YtcmllllbmgcnlaaGreatW.PrintMore
set_option linter.unusedVariables false
set_option linter.unusedSimpArgs false
structure NewI (ok : Nat → Prop) (W : World) (os : List Tp) (m wd : Nat) (bss : List Nat) (R : List Row) (R' : List Row) (t : Tp) (i : Nat) (wr : World) : Prop where
  kp : KeptS (fun k => k = m ∨ k ∈ bss) W wr
  map : MapAt wr m wd R'
  sets : SetsAt (Plus ok W.heap.size) wr os bss (fun j s => s ∈ keys R ∨ (j < i ∧ s = t))
section
variable {ok : Nat → Prop} {W W1 : World} {br wd : Nat} {os : List Tp} {R R' : List Row} {m : Nat} {bss : List Nat} {t : Tp} {i : Nat} {wr : World}
theorem NewI.start (h : RelAt ok W br wd os R m bss) (hk : KeptS (fun k => k = m) W W1) (hM : MapAt W1 m wd R') : NewI ok W os m wd bss R R' t 0 W1 := by
  have hS : ∀ k, ok k → k < W.heap.size → W1.heap[k]? = W.heap[k]? := fun k hk' hlt => hk.same k hlt (fun e => h.nm (e ▸ hk'))
  refine ⟨hk.mono fun _ h => .inl h, hM, ?_⟩
  have := (h.sets.step hS (fun b hb hlt => hk.same b hlt (h.nb b hb).2.2)).mono (ok' := Plus ok W.heap.size) (fun _ hk => .inl hk) (fun b hb hk => hk.elim (h.nb b hb).1 fun hk => by have := h.blt b hb; omega)
  intro j h1 h2
  obtain ⟨A, c, rt, T, hS, hT⟩ := this j h1 h2
  exact ⟨A, c, rt, T, hS, fun s => (hT s).trans ⟨.inl, fun h => h.elim id fun h => by omega⟩⟩
theorem NewI.done {n : Int × Int} (h : RelAt ok W br wd os R m bss) (hi : NewI ok W os m wd bss R (insRow (plainO wd) t n R) t os.length wr) (hR : RowsOk wd (insRow (plainO wd) t n R)) : RelAt (Plus ok W.heap.size) wr br wd os (insRow (plainO wd) t n R) m bss := by
  have hS : ∀ k, ok k → k < W.heap.size → wr.heap[k]? = W.heap[k]? := fun k hk' hlt => hi.kp.same k hlt (fun e => e.elim (fun e => h.nm (e ▸ hk')) (fun e => (h.nb k e).1 hk'))
  obtain ⟨Ao, co, As, cs, hp, h1, h2, h3, h4⟩ := h.hp
  refine ⟨⟨Ao, co, As, cs, (hi.kp.same br h.lt (fun e => e.elim h.nr.2 fun e => (h.nb br e).2.1 rfl)).trans hp, h1, h2, Kd.F_mono (Kd.F_step h3 hS) (fun _ hk => .inl hk), Kd.F_mono (Kd.F_step h4 hS) (fun _ hk => .inl hk)⟩, h.hos, hR, hi.map, h.len, ?_, h.nd, fun b hb => ⟨fun hk => hk.elim (h.nb b hb).1 fun hk => by have := h.blt b hb; omega, (h.nb b hb).2⟩, ⟨fun hk => hk.elim h.nr.1 fun hk => by have := h.lt; omega, h.nr.2⟩, fun hk => hk.elim h.nm fun hk => by have := h.map.lt; omega⟩
  intro j h1 h2
  obtain ⟨A, c, rt, T, hS, hT⟩ := hi.sets j h1 h2
  refine ⟨A, c, rt, T, hS, fun s => ?_⟩
  rw [hT s]
  show (s ∈ keys R ∨ (j < os.length ∧ s = t)) ↔ s ∈ keys (insRow (plainO wd) t n R)
  rw [insRow_keys, insO_mem]
  constructor
  · rintro (h | ⟨_, h⟩)
    · exact .inr h
    · exact .inl h
  · rintro (h | h)
    · exact .inr ⟨h1, h⟩
    · exact .inl h
theorem NewI.ins (h : RelAt ok W br wd os R m bss) (hi : NewI ok W os m wd bss R R' t i wr) (hlt : i < os.length) (ht : t.length = wd) (hle : R.length < 1024) (At : Option Addr) (ct : Nat) (st : Sl wr At ct t) :
    ∃ b, bss[i]? = some b ∧ Calls Tryz.prog 41 #[.pointer (some ⟨b, 0, none⟩), .slice At t.length ct] wr fun e w' => (∃ v u, e = .returned (.tuple #[.bool v, .int .i64 u])) ∧ KeptS (fun k => k ∈ bss) wr w' ∧ NewI ok W os m wd bss R R' t (i + 1) w' := by
  have hb : i < bss.length := by rw [h.len]; exact hlt
  obtain ⟨A, c, rt, T, hS, hT⟩ := hi.sets i hlt hb
  have ho := (h.hos.each _ (List.getElem_mem hlt))
  refine ⟨bss[i], List.getElem?_eq_getElem hb, (insert_calls wr bss[i] hS At ct t st (by have := ho.2; have := h.hos.w8; omega)).mono ?_⟩
  rintro e w' ⟨rt', T', rfl, hS', hio, hk⟩
  have hsz := hi.kp.size
  have hne : ∀ j (h2 : j < bss.length), j ≠ i → bss[j] ≠ bss[i] := fun j h2 hj e => hj ((List.getElem_inj h.nd).1 e)
  have hTl : T.io.length < 1024 := Nat.lt_of_le_of_lt (nodup_le _ (keys R) (up_nodup hS.up) (fun x hx => by
    rcases (hT x).1 hx with hx | hx
    · exact hx
    · omega)) (by rw [keys, List.length_map]; exact hle)
  have hkS : KeptS (fun k => k ∈ bss) wr w' := (KeptS.one hk).mono fun k e => e ▸ List.getElem_mem hb
  refine ⟨⟨_, _, rfl⟩, hkS, hi.kp.trans (hkS.mono fun k h => .inr h), hi.map.step (hk.g.block m hi.map.lt (fun e => (h.nb _ (List.getElem_mem hb)).2.2 (by injection e with e; exact e.symm))), ?_⟩
  intro j h1 h2
  by_cases hj : j = i
  · subst hj
    refine ⟨A, c, rt', T', hS'.mono (fun k hk => ?_) (fun hk => hk.elim (h.nb _ (List.getElem_mem hb)).1 fun hk => by have := h.blt _ (List.getElem_mem hb); omega), fun s => ?_⟩
    · rcases hk with hk | hk
      · exact hk
      · exact .inr (by omega)
    · rw [hio, insTo_set hTl (by rw [ht, ho.2]), hT s]
      constructor
      · rintro ((h | ⟨h, _⟩) | h)
        · exact .inl h
        · omega
        · exact .inr ⟨by omega, h⟩
      · rintro (h | ⟨_, h⟩)
        · exact .inl (.inl h)
        · exact .inr h
  · obtain ⟨A2, c2, rt2, T2, hS2, hT2⟩ := hi.sets j h1 h2
    refine ⟨A2, c2, rt2, T2, hS2.step (fun k hk' hlt' => hk.g.block k hlt' (fun e => ?_)) (hk.g.block _ hS2.lt (fun e => hne j h2 hj (by injection e))), fun s => (hT2 s).trans ?_⟩
    · injection e with e
      exact hS.nok (e ▸ hk')
    · constructor
      · rintro (h | ⟨h, h'⟩)
        · exact .inl h
        · exact .inr ⟨by omega, h'⟩
      · rintro (h | ⟨h, h'⟩)
        · exact .inl h
        · exact .inr ⟨by omega, h'⟩
end
set_option maxHeartbeats 8000000 in
set_option maxRecDepth 100000 in
theorem rput_full {ok : Nat → Prop} {W : World} {br wd : Nat} {os : List Tp} {R : List Row} {m : Nat} {bss : List Nat} (h : RelAt ok W br wd os R m bss) (x y : Nat) (At : Option Addr) (ct : Nat) (t : Tp) (st : Sl W At ct t) (hl : t.length = wd) (n1 n2 : Int) (hx : heightF x y = (n1, n2, true)) (ho : lookF R t = none) (hle : 1024 ≤ R.length) :
    Calls Tryz.prog 13 #[.pointer (some ⟨br, 0, none⟩), .complex .f64 x y, .slice At t.length ct] W (PutR ok W br wd os m bss (R, false, 18)) := by
  obtain ⟨Ao, co, As, cs, hp, _⟩ := h.hp
  have hr := rec_of hp
  have h0 := hr.c0
  have h1 := hr.c1
  have h4 := hr.c4
  have hd : ((t.length : Int) == (wd : Int)) = true := by simp [hl]
  have H := Aside0.mk h
  have HS := Aside0.mk st
  have HH := Aside0.mk (height_calls W x y)
  rw [hx] at HH
  have H8 := Aside0.mk (show t.length ≤ 8 by have := h.hos.w8; omega)
  obtain ⟨q, hq⟩ : ∃ q, q = R.length := ⟨_, rfl⟩
  have hqd : (1024 : Int) ≤ (q : Int) := by omega
  have HLn := Aside0.mk (fun (w' : World) (hs : Since W w') (ty : TypeId) => show (Builtin.len_ #[72] ty #[.map (some m)]).run Tryz.prog w' = .ok (.int .i64 (q : Int)) w' from by
    obtain ⟨es, clock, M, hm, hE, _, hl, _⟩ := (h.map.step (hs.b.block _ h.map.lt))
    have hes : es.size = R.length := by
      have := congrArg List.length hE
      simpa [hl] using this
    exact (run_len_map w' _ ty m es clock (by kernel_rfl) hm).trans (by rw [hes, hq]; rfl))
  have HL := Aside0.mk (fun (w' : World) (hs : Since W w') => (look_true (h.map.step (hs.b.block _ h.map.lt)) h.hos.w8 t hl).trans (by rw [ho]; rfl : _ = Result.ok (.tuple #[.complex .f64 0 0, .bool false]) w'))
  have HKP := Aside0.mk (fun (w' : World) (hs : Since W w') => And.intro (pw_cell_below hs.b h4) hs)
  clear h st hp hr hl hx ho hq hle
  go_enter Tryz.func13, Tryz.ntmps13
  go_wp2_with (first
    | (go_at_call 38; refine (rok_calls _ br h0).mono ?_; rintro e w' ⟨rfl, rfl⟩)
    | (go_at_call 17; refine HH.out.mono ?_; rintro e w' ⟨rfl, rfl⟩))
  go_region_held3 (fun w' => w'.cell? ⟨br, 4, none⟩ = some (.map (some m)) ∧ Since W w')
    (exact HKP.out _ (by ((try go_split_ands); first | exact (Since.refl _).drew | assumption | exact Since.trans (by assumption) (by assumption))))
    (first
      | (go_at_call 39; (refine (key_calls _ At ct t (Sl.below HS.out (by go_split_ands; exact Since.b (by assumption))) H8.out).mono ?_); rintro e w' ⟨rfl, hb5⟩; have hs5 := Since.mk hb5; have hlk := HL.out w' (Since.trans (by go_split_ands; assumption) hs5)))
  have hs9 : Since W w' := by go_split_ands; assumption
  have c9 := pw_cell_below hs9.b h4
  have hlen := HLn.out w' hs9
  have HS9 := Aside0.mk hs9
  clear hs9
  go_wp2
  go_ret2
  exact ⟨rfl, H.out.plus HS9.out.b, .below HS9.out.b⟩
set_option maxHeartbeats 8000000 in
set_option maxRecDepth 100000 in
theorem rput_new {ok : Nat → Prop} {W : World} {br wd : Nat} {os : List Tp} {R : List Row} {m : Nat} {bss : List Nat} (h : RelAt ok W br wd os R m bss) (x y : Nat) (At : Option Addr) (ct : Nat) (t : Tp) (hst : ∀ w', KeptS (fun k => k = m ∨ k ∈ bss) W w' → Sl w' At ct t) (hl : t.length = wd) (n1 n2 : Int) (hx : heightF x y = (n1, n2, true)) (ho : lookF R t = none) (hle : R.length < 1024) :
    Calls Tryz.prog 13 #[.pointer (some ⟨br, 0, none⟩), .complex .f64 x y, .slice At t.length ct] W (PutR ok W br wd os m bss (insRow (plainO wd) t (n1, n2) R, true, 0)) := by
  obtain ⟨Ao, co, As, cs, hp, hco, hcs, hFo, hFs⟩ := h.hp
  have hr := rec_of hp
  have h0 := hr.c0
  have h1 := hr.c1
  have h4 := hr.c4
  have hd : ((t.length : Int) == (wd : Int)) = true := by simp [hl]
  have H := Aside0.mk h
  have HS := Aside0.mk (hst W (.refl _ _))
  have HH := Aside0.mk (height_calls W x y)
  rw [hx] at HH
  have hrt := heightF_right (x := x) (y := y) (by rw [hx])
  rw [hx] at hrt
  have H8 := Aside0.mk (show t.length ≤ 8 by have := h.hos.w8; omega)
  obtain ⟨q, hq⟩ : ∃ q, q = R.length := ⟨_, rfl⟩
  have hqd : ¬ (1024 : Int) ≤ (q : Int) := by omega
  have HLn := Aside0.mk (fun (w' : World) (hs : Since W w') (ty : TypeId) => show (Builtin.len_ #[72] ty #[.map (some m)]).run Tryz.prog w' = .ok (.int .i64 (q : Int)) w' from by
    obtain ⟨es, clock, M, hm, hE, _, hl, _⟩ := (h.map.step (hs.b.block _ h.map.lt))
    have hes : es.size = R.length := by
      have := congrArg List.length hE
      simpa [hl] using this
    exact (run_len_map w' _ ty m es clock (by kernel_rfl) hm).trans (by rw [hes, hq]; rfl))
  have HL := Aside0.mk (fun (w' : World) (hs : Since W w') => (look_true (h.map.step (hs.b.block _ h.map.lt)) h.hos.w8 t hl).trans (by rw [ho]; rfl : _ = Result.ok (.tuple #[.complex .f64 0 0, .bool false]) w'))
  have HU := Aside0.mk (fun (w' : World) (hs : Since W w') => upd_at (h.map.step (hs.b.block _ h.map.lt)) h.hos.w8 t hl n1 n2)
  have HKP := Aside0.mk (fun (w' : World) (hs : Since W w') => And.intro (pw_cell_below hs.b h4) hs)
  have HKQ := Aside0.mk (fun (w' : World) (hs : KeptS (fun k => k = m) W w') => And.intro (show w'.cell? ⟨br, 4, none⟩ = some (.map (some m)) from (Tup.cell_of_heap ((hs.same br h.lt h.nr.2).trans hp) 4).trans rfl) hs)
  have HR := Aside0.mk (h.hR.ins h.hos.w8 (n := (n1, n2)) (lookF_none.1 ho) hl hle hrt.1 hrt.2)
  have HT := Aside0.mk (And.intro (lookF_none.1 ho) (And.intro hl hle))
  obtain ⟨on, hon⟩ : ∃ on, on = os.length := ⟨_, rfl⟩
  have HON := Aside0.mk hon
  have hon6 : (on : Int) ≤ 1000 := by have := h.hos.n; omega
  have HC3 := Aside0.mk (fun (w' : World) (hs : KeptS (fun k => k = m ∨ k ∈ bss) W w') => show w'.cell? ⟨br, 3, none⟩ = some (.slice As on cs) from (Tup.cell_of_heap ((hs.same br h.lt (fun e => e.elim h.nr.2 fun e => (h.nb br e).2.1 rfl)).trans hp) 3).trans (by rw [hon]; rfl))
  have HCs := Aside0.mk (fun (w' : World) (hs : KeptS (fun k => k = m ∨ k ∈ bss) W w') (i : Nat) (hi : i < on) => show ∃ ad b, As = some ad ∧ bss[i]? = some b ∧ w'.cell? (ad.add i) = some (.pointer (some ⟨b, 0, none⟩)) from by
    have hb : i < bss.length := by rw [h.len, ← hon]; exact hi
    obtain ⟨ad, e, hc⟩ := nod_at (Kd.F_now (Kd.F_step hFs (W1 := w') fun k hk' hlt => hs.same k hlt (fun e => e.elim (fun e => h.nm (e ▸ hk')) (fun e => (h.nb k e).1 hk')))) i hb
    exact ⟨ad, _, e, List.getElem?_eq_getElem hb, hc⟩)
  have HSl := Aside0.mk hst
  clear h hst hp hr hl hx ho hq hle hrt hFo hFs hco hcs hon
  go_enter Tryz.func13, Tryz.ntmps13
  go_wp2_with (first
    | (go_at_call 38; refine (rok_calls _ br h0).mono ?_; rintro e w' ⟨rfl, rfl⟩)
    | (go_at_call 17; refine HH.out.mono ?_; rintro e w' ⟨rfl, rfl⟩))
  go_region_held3 (fun w' => w'.cell? ⟨br, 4, none⟩ = some (.map (some m)) ∧ Since W w')
    (exact HKP.out _ (by ((try go_split_ands); first | exact (Since.refl _).drew | assumption | exact Since.trans (by assumption) (by assumption))))
    (first
      | (go_at_call 39; (refine (key_calls _ At ct t (Sl.below HS.out (by go_split_ands; exact Since.b (by assumption))) H8.out).mono ?_); rintro e w' ⟨rfl, hb5⟩; have hs5 := Since.mk hb5; have hlk := HL.out w' (Since.trans (by go_split_ands; assumption) hs5)))
  have hs9 : Since W w' := by go_split_ands; assumption
  have c9 := pw_cell_below hs9.b h4
  have hlen := HLn.out w' hs9
  have HS9 := Aside0.mk hs9
  have HKq := Aside0.mk (HKQ.out _ (KeptS.below (S := fun k => k = m) hs9.drew.b))
  clear hs9
  go_wp2
  clear hlen c9
  go_region_held3 (fun w2 => w2.cell? ⟨br, 4, none⟩ = some (.map (some m)) ∧ KeptS (fun k => k = m) W w2)
    (first | exact HKq.out | exact HKQ.out _ (KeptS.below (Since.b (by assumption))) | exact HKQ.out _ ((KeptS.below (Since.b (by assumption))).trans (KeptS.put _ _ rfl)))
    (first
      | (go_at_call 39; (refine (key_calls _ At ct t (Sl.below HS.out HS9.out.drew.b) H8.out).mono ?_); rintro e w3 ⟨rfl, hb5⟩; have hs5 : Since W w3 := HS9.out.drew.trans (Since.mk hb5); obtain ⟨ob, hup, hM⟩ := HU.out w3 hs5; have HS5 := Aside0.mk hs5; have HM := Aside0.mk hM; clear hM))
  have hkm : KeptS (fun k => k = m) W (w3.putObj m ob) := (KeptS.below HS5.out.b).trans (KeptS.put _ _ rfl)
  have HN0 := Aside0.mk (NewI.start (R' := insRow (plainO wd) t (n1, n2) R) (t := t) H.out hkm (HM.out.ins HT.out.1))
  obtain ⟨V, hV⟩ : ∃ V, V = w3.putObj m ob := ⟨_, rfl⟩
  rw [← hV] at HN0 ⊢
  have c3 := HC3.out V HN0.out.kp
  clear hkm hV
  go_wp2
  clear c3
  go_loopg [85] on (fun gk v85 wr => ∃ k : Nat, v85 = .int .i64 (k : Int) ∧ Aside0 (k + gk = on) ∧ Aside0 (NewI ok W os m wd bss R (insRow (plainO wd) t (n1, n2) R) t k wr))
  case atStart => exact ⟨0, rfl, ⟨by omega⟩, HN0⟩
  case round =>
    obtain ⟨k, rfl, HK, HI⟩ := hrel
    by_cases hk : k < on
    · have hkd : decide (k < on) = true := decide_eq_true hk
      have hki : (k : Int) < (on : Int) := by omega
      obtain ⟨ad, b, rfl, hbk, hcb⟩ := HCs.out wr HI.out.kp k hk
      have HIn := Aside0.mk (HI.out.ins H.out (by rw [← HON.out]; exact hk) HT.out.2.1 HT.out.2.2 At ct (HSl.out wr HI.out.kp))
      have HB := Aside0.mk hbk
      clear hbk
      go_wp2_with (go_at_call 41; obtain ⟨b', hb', hcl⟩ := HIn.out; obtain rfl : b = b' := Option.some.inj (HB.out.symm.trans hb'); (with_reducible refine hcl.mono ?_); rintro e w6 ⟨⟨v, u, rfl⟩, _, hN6⟩; have HN6 := Aside0.mk hN6; clear hN6 hcl hb')
      obtain ⟨g2, hg2⟩ : ∃ g2, g2 = gk - 1 := ⟨_, rfl⟩
      go_roundg g2
      case measure => have := HK.out; omega
      case rel => exact ⟨k + 1, by go_num, ⟨by have := HK.out; omega⟩, HN6⟩
    · have hkd : decide (k < on) = false := decide_eq_false hk
      have hki : ¬ (k : Int) < (on : Int) := by omega
      have hke : k = os.length := by have := HK.out; have := HON.out; omega
      subst hke
      go_wp2
      go_ret2
      exact ⟨rfl, HI.out.done H.out HR.out, HI.out.kp⟩
theorem rput_calls {ok : Nat → Prop} {W : World} {br wd : Nat} {os : List Tp} {R : List Row} {m : Nat} {bss : List Nat} (h : RelAt ok W br wd os R m bss) (x y : Nat) (At : Option Addr) (ct : Nat) (t : Tp) (hst : ∀ w', KeptS (fun k => k = m ∨ k ∈ bss) W w' → Sl w' At ct t) :
    Calls Tryz.prog 13 #[.pointer (some ⟨br, 0, none⟩), .complex .f64 x y, .slice At t.length ct] W (PutR ok W br wd os m bss (putC wd R t x y)) := by
  have st := hst W (.refl _ _)
  by_cases hl : t.length = wd
  · have hl' : ¬ t.length ≠ wd := fun h => h hl
    cases hx : (heightF x y).2.2 with
    | false =>
      rw [show putC wd R t x y = (R, false, 1) from by simp only [putC, if_neg hl', hx, Bool.false_eq_true, if_false]]
      exact rput_arg h x y At ct t hl hx
    | true =>
      obtain ⟨n1, n2, hn⟩ : ∃ n1 n2, heightF x y = (n1, n2, true) := ⟨(heightF x y).1, (heightF x y).2.1, by rw [← hx]⟩
      have hp : putC wd R t x y = (putTo wd R t (n1, n2), putAns wd R t) := by simp only [putC, if_neg hl', hn, if_true]
      cases ho : lookF R t with
      | some o =>
        obtain ⟨o1, o2⟩ := o
        have ha : putAns wd R t = (false, 0) := by simp only [putAns, if_neg hl', if_pos (mem_keys (lookF_mem ho))]
        cases hb : betterB n1 n2 o1 o2 with
        | false =>
          rw [hp, ha, show putTo wd R t (n1, n2) = R from by simp only [putTo, if_neg hl', ho, hb, Bool.false_eq_true, if_false]]
          exact rput_worse h x y At ct t st hl n1 n2 hn o1 o2 ho hb
        | true =>
          rw [hp, ha, show putTo wd R t (n1, n2) = updF R t (n1, n2) from by simp only [putTo, if_neg hl', ho, hb, if_true]]
          exact rput_better h x y At ct t st hl n1 n2 hn o1 o2 ho hb
      | none =>
        by_cases hle : 1024 ≤ R.length
        · rw [hp, show putAns wd R t = (false, 18) from by simp only [putAns, if_neg hl', if_neg (lookF_none.1 ho), if_pos hle], show putTo wd R t (n1, n2) = R from by simp only [putTo, if_neg hl', ho, if_pos hle]]
          exact rput_full h x y At ct t st hl n1 n2 hn ho hle
        · rw [hp, show putAns wd R t = (true, 0) from by simp only [putAns, if_neg hl', if_neg (lookF_none.1 ho), if_neg hle], show putTo wd R t (n1, n2) = insRow (plainO wd) t (n1, n2) R from by simp only [putTo, if_neg hl', ho, if_neg hle]]
          exact rput_new h x y At ct t hst hl n1 n2 hn ho (by omega)
  · rw [show putC wd R t x y = (R, false, 14) from by simp only [putC, ne_eq, hl, not_false_eq_true, if_true]]
    exact rput_width h x y At ct t hl
end Go.Proofs.YtcmllllbmgcnlaaGreat.Rl
end
section
namespace Go.Proofs.YtcmllllbmgcnlaaGreat.Rl
open Go.RowKit Go.Lib Go.Deep Go.Proofs.YtcmllllbmgcnlaaGreat.G Go.Proofs.YtcmllllbmgcnlaaGreat.Tup Go.Proofs.YtcmllllbmgcnlaaGreatW.PrintWords Go.Proofs.YtcmllllbmgcnlaaGreatW.PrintLast Go.Proofs.YtcmllllbmgcnlaaGreatW.PrintMore
set_option linter.unusedVariables false
set_option linter.unusedSimpArgs false
abbrev bp (b : Nat) : Value := .pointer (some ⟨b, 0, none⟩)
theorem infoS : (Tryz.prog.info? 99).map (fun i => (i.zero, i.size, i.bytes)) = some (some (.pointer none), 1, 8) := by kernel_rfl
def BegOk (m n : Nat) (A : Option Addr) (bss : List Nat) : Nat → Prop := fun k => m < k ∧ k < n ∧ k ∉ bss ∧ ∀ ad, A = some ad → k ≠ ad.block
structure BegI (W : World) (br wd m : Nat) (Ao : Option Addr) (co : Nat) (os : List Tp) (i : Nat) (A : Option Addr) (c : Nat) (bss : List Nat) (wr : World) : Prop where
  hp : wr.heap[br]? = some (.cells #[.bool true, .int .i64 (wd : Int), .slice Ao os.length co, .slice A i c, .map (some m)] 74 (0, 0))
  hm : wr.heap[m]? = some (.map #[] 0)
  own : wr.ownsRow (m + 1) 99 1 (.slice A i c) i (bss.map bp)
  len : bss.length = i
  kp : KeptS (fun k => k = br) W wr
  sets : ∀ j (h1 : j < os.length) (h2 : j < bss.length), ∃ A' c' rt, SetAt (BegOk m wr.heap.size A bss) wr bss[j] A' c' os[j] rt (.mk [] [])
  nd : bss.Nodup
  rng : ∀ b ∈ bss, m < b ∧ b < wr.heap.size ∧ ∀ ad, A = some ad → b ≠ ad.block
  me : m = W.heap.size
  brm : br < m
section
variable {W wr w2 w3 : World} {br wd m : Nat} {Ao : Option Addr} {co : Nat} {os : List Tp} {i : Nat} {A : Option Addr} {c : Nat} {bss : List Nat}
theorem BegI.szm (h : BegI W br wd m Ao co os i A c bss wr) : m < wr.heap.size := (Array.getElem?_eq_some_iff.1 h.hm).1
theorem BegI.ablk (h : BegI W br wd m Ao co os i A c bss wr) : ∀ ad, A = some ad → m < ad.block ∧ ad.block < wr.heap.size := fun ad e => by
  have h1 := own_ge h.own ad.block (by rw [e]; rfl)
  have h2 := Tup.own_lt h.own ad.block (by rw [e]; rfl)
  exact ⟨by omega, h2⟩
theorem BegI.more (h : BegI W br wd m Ao co os i A c bss wr) (hi : i < os.length) {bs c1 rt : Nat} {A0 : Option Addr} (hb : Below wr.heap.size wr w2) (hbs : wr.heap.size ≤ bs) {o : Tp} (ho' : o = os[i]) (hS : SetAt (fun k => wr.heap.size ≤ k ∧ k < w2.heap.size ∧ k ≠ bs) w2 bs A0 c1 o rt (.mk [] []))
    {g' cap' : Nat} (ho : w3.ownsRow (m + 1) 99 1 (.slice (some ⟨g', 0, none⟩) (i + 1) cap') (i + 1) (bss.map bp ++ [bp bs])) (hg : (w2.alloc (.cells #[bp bs] 99)).grownBy w3 (Value.slice A i c).ownBlock) (hat : (Value.slice (some ⟨g', 0, none⟩) (i + 1) cap').ownBlock = (Value.slice A i c).ownBlock ∨ ∃ b, (Value.slice (some ⟨g', 0, none⟩) (i + 1) cap').ownBlock = some b ∧ (w2.alloc (.cells #[bp bs] 99)).heap.size ≤ b) :
    BegI W br wd m Ao co os (i + 1) (some ⟨g', 0, none⟩) cap' (bss ++ [bs]) (w3.setCell ⟨br, 3, none⟩ (.slice (some ⟨g', 0, none⟩) (i + 1) cap')) ∧ w3.frozen? ⟨br, 3, none⟩ = false ∧ w3.cell? ⟨br, 3, none⟩ = some (.slice A i c) := by
  subst ho'
  have hsz := hb.size
  have hbs2 := hS.lt
  have hg3 : (w2.alloc (.cells #[bp bs] 99)).heap.size ≤ w3.heap.size := hg.size
  have hs3 : w2.heap.size + 1 ≤ w3.heap.size := by simpa using hg3
  have hat' : (∃ ad, A = some ad ∧ g' = ad.block) ∨ w2.heap.size < g' := by
    rcases hat with e | ⟨b, e, hb⟩
    · cases A with
      | none => simp [Value.ownBlock] at e
      | some ad => exact .inl ⟨ad, rfl, by simpa [Value.ownBlock] using e⟩
    · have e' : g' = b := by simpa [Value.ownBlock] using e
      simp at hb
      exact .inr (by omega)
  have hkeep : ∀ k, k < w2.heap.size → (∀ ad, A = some ad → k ≠ ad.block) → k ≠ br → (w3.setCell ⟨br, 3, none⟩ (.slice (some ⟨g', 0, none⟩) (i + 1) cap')).heap[k]? = w2.heap[k]? := fun k hk h1 h2 => by
    rw [Below.heap_setCell _ _ _ _ h2, hg.block k (by simp; omega) (fun e => by
      cases A with
      | none => simp [Value.ownBlock] at e
      | some ad => exact h1 ad rfl (by simpa [Value.ownBlock] using e)), Below.heap_alloc _ _ _ hk]
  have hszm := h.szm
  have hbrm := h.brm
  have hab := h.ablk
  have hp3 : w3.heap[br]? = some (.cells #[.bool true, .int .i64 (wd : Int), .slice Ao os.length co, .slice A i c, .map (some m)] 74 (0, 0)) := by
    rw [hg.block br (by simp; omega) (fun e => by
      cases A with
      | none => simp [Value.ownBlock] at e
      | some ad => have := hab ad rfl; have : br = ad.block := by simpa [Value.ownBlock] using e
                   omega), Below.heap_alloc _ _ _ (by omega), hb.block br (by omega)]
    exact h.hp
  have hsz4 : (w3.setCell ⟨br, 3, none⟩ (.slice (some ⟨g', 0, none⟩) (i + 1) cap')).heap.size = w3.heap.size := by simp
  have hg'lt := Tup.own_lt ho g' rfl
  have hg'ge := own_ge ho g' rfl
  have hnb : ∀ b ∈ bss ++ [bs], m < b ∧ b < w2.heap.size ∧ b ≠ g' ∧ ∀ ad, A = some ad → b ≠ ad.block := fun b hb' => by
    rw [List.mem_append, List.mem_singleton] at hb'
    rcases hb' with hb' | rfl
    · have := h.rng b hb'
      refine ⟨this.1, by omega, ?_, this.2.2⟩
      rcases hat' with ⟨ad, e, e2⟩ | hlt
      · rw [e2]; exact this.2.2 ad e
      · omega
    · refine ⟨by omega, hbs2, ?_, fun ad e => by have := hab ad e; omega⟩
      rcases hat' with ⟨ad, e, e2⟩ | hlt
      · have := hab ad e; omega
      · omega
  refine ⟨?_, Tup.free_of_heap hp3 3, (Tup.cell_of_heap hp3 3).trans rfl⟩
  refine ⟨by have := heap_setCell_same w3 br 3 _ _ (.slice (some ⟨g', 0, none⟩) (i + 1) cap') hp3; simpa using this, (hkeep m (by omega) (fun ad e => by have := hab ad e; omega) (by omega)).trans ((hb.block m hszm).trans h.hm), ?_, by simp [h.len], ?_, ?_, ?_, ?_, h.me, h.brm⟩
  · have := own_move ho (w1 := w3.setCell ⟨br, 3, none⟩ (.slice (some ⟨g', 0, none⟩) (i + 1) cap')) fun k hk => Below.heap_setCell _ _ _ _ (fun e => by
      have e' : g' = k := by simpa [Value.ownBlock] using hk
      have : k = br := e
      omega)
    simpa using this
  · have k1 := h.kp.trans (KeptS.below hb)
    have k2 : KeptS (fun k => k = br) W w3 := by
      have hW : W.heap.size ≤ w2.heap.size := k1.size
      refine ⟨hg.os.trans k1.os, hg.tape.trans k1.tape, hg.output.trans k1.output, by omega, fun k hk hn => ?_⟩
      have hme := h.me
      rw [hg.block k (by simp; omega) (fun e => by
        cases A with
        | none => simp [Value.ownBlock] at e
        | some ad => have := hab ad rfl; have : k = ad.block := by simpa [Value.ownBlock] using e
                     omega), Below.heap_alloc _ _ _ (by omega)]
      exact k1.same k hk hn
    exact ⟨k2.os, k2.tape, k2.output, by simpa using k2.size, fun k hk hn => (Below.heap_setCell _ _ _ _ hn).trans (k2.same k hk hn)⟩
  · intro j h1 h2
    have hjl : j ≤ i := by simp [h.len] at h2; omega
    by_cases hj : j = i
    · subst hj
      have e : (bss ++ [bs])[j] = bs := by
        rw [List.getElem_append_right (by rw [h.len]; exact Nat.le_refl _)]
        simp [h.len]
      rw [e]
      refine ⟨A0, c1, rt, (hS.step (fun k hk hlt => hkeep k hk.2.1 (fun ad e => by have := hab ad e; have := hk.1; omega) (by have := hk.1; omega)) (hkeep bs hbs2 (fun ad e => by have := hab ad e; omega) (by omega))).mono (fun k hk => ⟨by have := hk.1; omega, by rw [hsz4]; have := hk.2.1; omega, fun hm => ?_, fun ad e => ?_⟩) (fun hk => hk.2.2.1 (by simp))⟩
      · rw [List.mem_append, List.mem_singleton] at hm
        rcases hm with hm | hm
        · have := (h.rng k hm).2.1; have := hk.1; omega
        · exact hk.2.2 hm
      · injection e with e
        subst e
        show k ≠ g'
        rcases hat' with ⟨ad, e, e2⟩ | hlt
        · have := hab ad e; have := hk.1; omega
        · have := hk.2.1; omega
    · have hjb : j < bss.length := by rw [h.len]; omega
      have e : (bss ++ [bs])[j] = bss[j] := List.getElem_append_left hjb
      rw [e]
      obtain ⟨A', c', rt', hS'⟩ := h.sets j h1 hjb
      have hr := h.rng _ (List.getElem_mem hjb)
      refine ⟨A', c', rt', (hS'.step (fun k hk hlt => (hkeep k (by have := hk.2.1; omega) hk.2.2.2 (by have := hk.1; omega)).trans (hb.block k hlt)) ((hkeep _ (by omega) hr.2.2 (by omega)).trans (hb.block _ hr.2.1))).mono (fun k hk => ⟨hk.1, by rw [hsz4]; have := hk.2.1; omega, fun hm => ?_, fun ad e => ?_⟩) (fun hk => hk.2.2.1 (by simp))⟩
      · rw [List.mem_append, List.mem_singleton] at hm
        rcases hm with hm | hm
        · exact hk.2.2.1 hm
        · have := hk.2.1; omega
      · injection e with e
        subst e
        show k ≠ g'
        rcases hat' with ⟨ad, e, e2⟩ | hlt
        · rw [e2]; exact hk.2.2.2 ad e
        · have := hk.2.1; omega
  · rw [List.nodup_append]
    refine ⟨h.nd, by simp, fun a ha b hb' e => ?_⟩
    rw [List.mem_singleton] at hb'
    have := (h.rng a ha).2.1
    omega
  · intro b hb'
    have := hnb b hb'
    refine ⟨this.1, by rw [hsz4]; omega, fun ad e => ?_⟩
    injection e with e
    subst e
    exact this.2.2.1
end
def BegunR (okO : Nat → Prop) (W : World) (br wd : Nat) (os : List Tp) (e : Ending) (w' : World) : Prop :=
  e = .returned (.tuple #[]) ∧ KeptS (fun k => k = br) W w' ∧ ∃ m bss, W.heap.size ≤ m ∧ (∀ b ∈ bss, W.heap.size ≤ b) ∧ RelAt (fun k => (okO k ∧ k < W.heap.size) ∨ (W.heap.size ≤ k ∧ k ≠ m ∧ k ∉ bss)) w' br wd os [] m bss
theorem kn_row {w : World} {base n c : Nat} {bss : List Nat} {A : Option Addr} (h : w.ownsRow base 99 1 (.slice A n c) n (bss.map bp)) (hl : bss.length = n) : n ≤ c ∧ Kd.F KN w (fun k => ∃ ad, A = some ad ∧ k = ad.block) A n bss := by
  obtain ⟨A', c', e, hle, hF⟩ := rows_in (d := KN) (ok := fun _ => False) rfl h (Els.of (by simp) fun i hi hu => by rw [List.getElem_map]; exact nod_el _) hl.symm
  injection e with e1 e2 e3
  subst e1 e3
  rw [hl] at hle hF
  refine ⟨hle, Kd.F_mono hF fun k hk => ?_⟩
  rcases hk with hk | hk
  · exact hk.elim
  · cases A with
    | none => simp [Value.ownBlock] at hk
    | some ad => exact ⟨ad, rfl, by simpa [Value.ownBlock] using hk⟩
theorem BegI.done {okO : Nat → Prop} {W wr : World} {br wd m : Nat} {Ao : Option Addr} {co : Nat} {os : List Tp} {A : Option Addr} {c : Nat} {bss : List Nat} (h : BegI W br wd m Ao co os os.length A c bss wr) (hos : OsOk wd os) (hF : Kd.F KT W okO Ao os.length os) (hco : os.length ≤ co) (hn : ¬ okO br) :
    RelAt (fun k => (okO k ∧ k < W.heap.size) ∨ (W.heap.size ≤ k ∧ k ≠ m ∧ k ∉ bss)) wr br wd os [] m bss := by
  obtain ⟨hc, hK⟩ := kn_row h.own h.len
  have hme := h.me
  have hbrm := h.brm
  refine ⟨⟨Ao, co, A, c, h.hp, hco, hc, ?_, ?_⟩, hos, ⟨List.Pairwise.nil, by simp, by simp, by simp⟩, ⟨#[], 0, [], h.hm, rfl, by simp, rfl, fun _ => rfl⟩, h.len, ?_, h.nd, fun b hb => ⟨fun hk => ?_, ?_, ?_⟩, ⟨fun hk => ?_, by omega⟩, fun hk => ?_⟩
  · exact Kd.F_mono (Kd.F_step (Kd.F_bound hF) fun k hk hlt => h.kp.same k hlt (fun e => hn (e ▸ hk.1))) (fun k hk => .inl hk)
  · refine Kd.F_mono hK fun k hk => ?_
    obtain ⟨ad, e, rfl⟩ := hk
    have := h.ablk ad e
    exact .inr ⟨by omega, by omega, fun hm => (h.rng _ hm).2.2 ad e rfl⟩
  · intro j h1 h2
    obtain ⟨A', c', rt, hS⟩ := h.sets j h1 h2
    refine ⟨A', c', rt, _, hS.mono (fun k hk => .inr ⟨by have := hk.1; omega, by have := hk.1; omega, hk.2.2.1⟩) (fun hk => ?_), fun t => by rw [BT.io_mk]; simp [weave, keys]⟩
    have hm := List.getElem_mem h2
    rcases hk with hk | hk
    · have := (h.rng _ hm).1; have := hk.2; omega
    · exact hk.2.2 hm
  · rcases hk with hk | hk
    · have := (h.rng _ hb).1; have := hk.2; omega
    · exact hk.2.2 hb
  · have := (h.rng _ hb).1; omega
  · have := (h.rng _ hb).1; omega
  · rcases hk with hk | hk
    · exact hn hk.1
    · omega
  · rcases hk with hk | hk
    · omega
    · exact hk.2.1 rfl
set_option maxHeartbeats 8000000 in
set_option maxRecDepth 100000 in
theorem begin_calls {okO : Nat → Prop} {W : World} {br wd : Nat} {Ao : Option Addr} {co : Nat} {os : List Tp} {v3 v4 : Value} (hp : W.heap[br]? = some (.cells #[.bool true, .int .i64 (wd : Int), .slice Ao os.length co, v3, v4] 74 (0, 0))) (hos : OsOk wd os) (hF : Kd.F KT W okO Ao os.length os) (hco : os.length ≤ co) (hn : ¬ okO br) :
    Calls Tryz.prog 37 #[.pointer (some ⟨br, 0, none⟩)] W (BegunR okO W br wd os) := by
  have hlt : br < W.heap.size := (Array.getElem?_eq_some_iff.1 hp).1
  have hmm := @run_makeMap Tryz.prog
  obtain ⟨i0, hi0, hz0, hz1, hz2⟩ := info_parts infoS
  have HI := Aside0.mk (And.intro hi0 (And.intro hz0 (And.intro hz1 hz2)))
  have HOS := Aside0.mk (And.intro hos (And.intro hF (And.intro hco hn)))
  obtain ⟨on, hon⟩ : ∃ on, on = os.length := ⟨_, rfl⟩
  have HON := Aside0.mk hon
  have hon6 : (on : Int) ≤ 1000 := by have := hos.n; omega
  have f3 := Tup.free_of_heap hp 3
  have g3 : W.cell? ⟨br, 3, none⟩ = some v3 := (Tup.cell_of_heap hp 3).trans rfl
  have f4 := Tup.free_of_heap hp 4
  have g4 : W.cell? ⟨br, 4, none⟩ = some v4 := (Tup.cell_of_heap hp 4).trans rfl
  have c2 : W.cell? ⟨br, 2, none⟩ = some (.slice Ao on co) := (Tup.cell_of_heap hp 2).trans (by rw [hon]; rfl)
  have hb := heap_setCell_same _ br 3 _ _ (.slice none 0 0) hp
  have hc := heap_setCell_same _ br 4 _ _ (.map (some W.heap.size)) hb
  have hc' : (((W.setCell ⟨br, 3, none⟩ (.slice none 0 0)).setCell ⟨br, 4, none⟩ (.map (some W.heap.size))).alloc (.map #[] 0)).heap[br]? = some (.cells #[.bool true, .int .i64 (wd : Int), .slice Ao os.length co, .slice none 0 0, .map (some W.heap.size)] 74 (0, 0)) := (Below.heap_alloc _ _ _ (by simpa using hlt)).trans (by simpa using hc)
  have HB0 : Aside0 (BegI W br wd W.heap.size Ao co os 0 none 0 [] (((W.setCell ⟨br, 3, none⟩ (.slice none 0 0)).setCell ⟨br, 4, none⟩ (.map (some W.heap.size))).alloc (.map #[] 0))) := by
    have hk : ∀ k, k ≠ br → (((W.setCell ⟨br, 3, none⟩ (.slice none 0 0)).setCell ⟨br, 4, none⟩ (.map (some W.heap.size)))).heap[k]? = W.heap[k]? := fun k hk => by rw [Below.heap_setCell _ _ _ _ hk, Below.heap_setCell _ _ _ _ hk]
    have hz : (((W.setCell ⟨br, 3, none⟩ (.slice none 0 0)).setCell ⟨br, 4, none⟩ (.map (some W.heap.size)))).heap.size = W.heap.size := by simp
    exact ⟨⟨hc', by (have := heap_alloc_new (((W.setCell ⟨br, 3, none⟩ (.slice none 0 0)).setCell ⟨br, 4, none⟩ (.map (some W.heap.size)))) (.map #[] 0)); rw [hz] at this; exact this, World.ownsRow_nil _ _ _ _, rfl, ⟨rfl, rfl, rfl, by simp, fun k hk' hn => (Below.heap_alloc _ _ _ (by rw [hz]; exact hk')).trans (hk k hn)⟩, fun j h1 h2 => by simp at h2, List.nodup_nil, by simp, rfl, hlt⟩⟩
  clear hos hF hco hn hp hb hc hc' hi0 hz0 hz1 hz2 hon
  go_enter Tryz.func37, Tryz.ntmps37
  go_wp2
  obtain ⟨V, hV⟩ : ∃ V, V = ((W.setCell ⟨br, 3, none⟩ (.slice none 0 0)).setCell ⟨br, 4, none⟩ (.map (some W.heap.size))).alloc (.map #[] 0) := ⟨_, rfl⟩
  rw [← hV] at HB0 ⊢
  clear f3 g3 f4 g4 c2 hV hmm
  go_loopg [18] on (fun gk v18 wr => ∃ (k : Nat) (A : Option Addr) (c : Nat) (bss : List Nat), v18 = .int .i64 (k : Int) ∧ Aside0 (k + gk = on) ∧ Aside0 (BegI W br wd W.heap.size Ao co os k A c bss wr))
  case atStart => exact ⟨0, none, 0, [], rfl, ⟨by omega⟩, HB0⟩
  case round =>
    obtain ⟨k, A, c, bss, rfl, HK, HB⟩ := hrel
    clear HB0
    by_cases hk : k < on
    · have hkd : decide (k < on) = true := decide_eq_true hk
      have hki : (k : Int) < (on : Int) := by omega
      have hko : k < os.length := by rw [← HON.out]; exact hk
      obtain ⟨ad, Ai, ci, rfl, hcell, hsl⟩ := tup_at (Kd.F_now (Kd.F_step HOS.out.2.1 (W1 := wr) fun j hj hlt' => HB.out.kp.same j hlt' (fun e => HOS.out.2.2.2 (e ▸ hj)))) k hko
      obtain ⟨o, ho⟩ : ∃ o, o = os[k] := ⟨_, rfl⟩
      have HO := Aside0.mk ho
      rw [← ho] at hcell hsl
      have HNw := Aside0.mk (new_yes wr Ai ci o hsl (by rw [ho]; exact (HOS.out.1.each _ (List.getElem_mem hko)).1))
      clear hsl ho
      go_wp2_with (first
        | (go_at_call 63; refine HNw.out.mono ?_; clear HNw; rintro e w2 ⟨hb2, bs, A1, c1, rt, rfl, hbs, hS⟩; have HB2 := Aside0.mk hb2; have HS2 := Aside0.mk (And.intro hbs hS); have hp2 := (hb2.block br (Nat.lt_trans HB.out.brm HB.out.szm)).trans HB.out.hp; have c3 := pw_cell_below (below_alloc (Below.refl _ w2) (.cells #[bp bs] 99)) ((Tup.cell_of_heap hp2 3).trans rfl); have c3' := (Tup.cell_of_heap hp2 3).trans rfl; have HP2 := Aside0.mk hp2; have hown2 := Aside0.mk ((own_move HB.out.own fun j hj => hb2.block j (Tup.own_lt HB.out.own j hj.symm)).alloc (.cells #[bp bs] 99)); clear hb2 hbs hS hp2)
        | (at_builtin; go_loud (refine wpList_append_own_at _ rfl _ _ 71 rfl (W.heap.size + 1) 99 i0 (.pointer none) 1 8 Tryz.underlying71 HI.out.1 HI.out.2.1 HI.out.2.2.1 HI.out.2.2.2 rfl (by decide) (.slice A k c) k (bss.map bp) rfl hown2.out ⟨w2.heap.size, 0, none⟩ 1 1 [bp bs] rfl rfl (cell_one_new _ _ _) (by simp [Value.oneCell']) (by unfold maxLen; omega) (by omega) (by have := HB2.out.size; have := HB.out.szm; simp; omega) ?_; intro v' w3 hown3 hg3 _ hat3; obtain ⟨g', cap', rfl⟩ := ownsRow_succ hown3; have hM := HB.out.more hko HB2.out HS2.out.1 HO.out HS2.out.2 hown3 hg3 (hat3.imp id fun h => ⟨_, h, Nat.le_refl _⟩); have HM := Aside0.mk hM.1; have f3 := hM.2.1; have g3 := hM.2.2; clear hM hown3 hg3 hat3)))
      obtain ⟨g2, hg2⟩ : ∃ g2, g2 = gk - 1 := ⟨_, rfl⟩
      go_roundg g2
      case measure => have := HK.out; omega
      case rel => exact ⟨k + 1, _, _, _, by go_num, ⟨by have := HK.out; omega⟩, HM⟩
    · have hkd : decide (k < on) = false := decide_eq_false hk
      have hki : ¬ (k : Int) < (on : Int) := by omega
      have hke : k = os.length := by have := HK.out; have := HON.out; omega
      subst hke
      go_wp2
      go_end0
      exact ⟨rfl, HB.out.kp, _, _, Nat.le_refl _, fun b hb => by have := (HB.out.rng b hb).1; omega, HB.out.done HOS.out.1 HOS.out.2.1 HOS.out.2.2.1 HOS.out.2.2.2⟩
end Go.Proofs.YtcmllllbmgcnlaaGreat.Rl
end
