/- Own texts, joined and cut to what the claim stands on: ChTry, ChNext. -/
import Derived.Deep.OwnRows
import Derived.Deep.QuietTactic
import Derived.Deep.LoopGhost
import Derived.Test.YtcmllllbmgcnlaaGreatQ26
import Derived.Test.YtcmllllbmgcnlaaGreatQ5
import Derived.Test.YtcmllllbmgcnlaaGreatQ6
import Derived.Test.YtcmllllbmgcnlaaGreatQ7
import Derived.Test.YtcmllllbmgcnlaaGreatQ25
section
namespace Go.Proofs.YtcmllllbmgcnlaaGreat.Ch
open Go.RowKit Go.Deep Go.Proofs.YtcmllllbmgcnlaaGreat.G Go.Proofs.YtcmllllbmgcnlaaGreatW.PrintWords Go.Proofs.YtcmllllbmgcnlaaGreatW.PrintLast Go.Proofs.YtcmllllbmgcnlaaGreatW.PrintMore
set_option linter.unusedVariables false
set_option linter.unusedSimpArgs false
def Ed (lv : Nat → Int) (s k : Nat) : Prop := k ≠ s ∧ Go.bits .and .i64 (lv s) (lv k) = lv s
structure MW (n : Nat) (A : Option Addr) (c ba oa b bp bs : Nat) (lv : Nat → Int) (w : World) (pr : Nat → Int) (sn : Nat → Bool) : Prop where
  c0 : w.cell? ⟨b, 0, none⟩ = some (.slice A n c)
  c1 : w.cell? ⟨b, 1, none⟩ = some (.slice (some ⟨bp, 0, none⟩) n n)
  c2 : w.cell? ⟨b, 2, none⟩ = some (.slice (some ⟨bs, 0, none⟩) n n)
  rp : w.rowIs bp 3 n (fun k => .int .i64 (pr k))
  rs : w.rowIs bs 4 n (fun k => .bool (sn k))
  la : ∀ k, k < n → A = some ⟨ba, oa, none⟩ ∧ w.cell? ⟨ba, oa + k, none⟩ = some (.int .i64 (lv k))
  nps : bp ≠ bs
  nb : b ≠ bp ∧ b ≠ bs
  na : 0 < n → ba ≠ bp ∧ ba ≠ bs
structure Two2 (bp bs : Nat) (w w' : World) : Prop where
  os : w'.os = w.os
  tape : w'.tape = w.tape
  output : w'.output = w.output
  size : w'.heap.size = w.heap.size
  block : ∀ k, k ≠ bp → k ≠ bs → w'.heap[k]? = w.heap[k]?
namespace Two2
variable {bp bs : Nat} {w w' w'' : World}
theorem refl (bp bs : Nat) (w : World) : Two2 bp bs w w := ⟨rfl, rfl, rfl, rfl, fun _ _ _ => rfl⟩
theorem trans (h : Two2 bp bs w w') (k : Two2 bp bs w' w'') : Two2 bp bs w w'' := ⟨k.os.trans h.os, k.tape.trans h.tape, k.output.trans h.output, k.size.trans h.size, fun j h1 h2 => (k.block j h1 h2).trans (h.block j h1 h2)⟩
theorem drewN (h : Two2 bp bs w w') (m : Nat) : Two2 bp bs w (w'.drewN m) := ⟨h.os, h.tape, h.output, h.size, h.block⟩
theorem set (h : Two2 bp bs w w') {a : Addr} (ha : a.block = bp ∨ a.block = bs) (v : Value) : Two2 bp bs w (w'.setCell a v) :=
  ⟨h.os, h.tape, h.output, by simp [h.size], fun k h1 h2 => (blk_setCell_other _ _ _ _ (by rcases ha with ha | ha <;> omega)).trans (h.block k h1 h2)⟩
end Two2
section
variable {n : Nat} {A : Option Addr} {c ba oa b bp bs : Nat} {lv : Nat → Int} {w w' : World} {pr : Nat → Int} {sn : Nat → Bool}
theorem MW.drewN (h : MW n A c ba oa b bp bs lv w pr sn) (m : Nat) : MW n A c ba oa b bp bs lv (w.drewN m) pr sn := ⟨h.c0, h.c1, h.c2, h.rp, h.rs, h.la, h.nps, h.nb, h.na⟩
theorem cell_ne (w : World) {a a' : Addr} (v : Value) (h : a.block ≠ a'.block) : (w.setCell a' v).cell? a = w.cell? a := World.cell?_of_block (blk_setCell_other _ _ _ _ h)
theorem MW.see (h : MW n A c ba oa b bp bs lv w pr sn) (k : Nat) : MW n A c ba oa b bp bs lv (w.setCell ⟨bs, k, none⟩ (.bool true)) pr (putB sn k) :=
  ⟨by rw [cell_ne _ _ h.nb.2]; exact h.c0, by rw [cell_ne _ _ h.nb.2]; exact h.c1, by rw [cell_ne _ _ h.nb.2]; exact h.c2, h.rp.setOther h.nps _,
    (h.rs.set k _).congr (fun j _ => by unfold putB; by_cases e : j = k <;> simp [e]), fun j hj => ⟨(h.la j hj).1, by rw [cell_ne _ _ (h.na (by omega)).2]; exact (h.la j hj).2⟩, h.nps, h.nb, h.na⟩
theorem MW.give (h : MW n A c ba oa b bp bs lv w pr sn) (k : Nat) (i : Nat) : MW n A c ba oa b bp bs lv (w.setCell ⟨bp, k, none⟩ (.int .i64 i)) (put pr k i) sn :=
  ⟨by rw [cell_ne _ _ h.nb.1]; exact h.c0, by rw [cell_ne _ _ h.nb.1]; exact h.c1, by rw [cell_ne _ _ h.nb.1]; exact h.c2, (h.rp.set k _).congr (fun j _ => by unfold put; by_cases e : j = k <;> simp [e]),
    h.rs.setOther h.nps.symm _, fun j hj => ⟨(h.la j hj).1, by rw [cell_ne _ _ (h.na (by omega)).1]; exact (h.la j hj).2⟩, h.nps, h.nb, h.na⟩
end
def TryR (n : Nat) (A : Option Addr) (c ba oa b bp bs : Nat) (lv : Nat → Int) (w : World) (pr : Nat → Int) (sn : Nat → Bool) (i : Nat) (e : Ending) (w' : World) : Prop :=
  ∃ res pr' sn', e = .returned (.bool res) ∧ MW n A c ba oa b bp bs lv w' pr' sn' ∧ Two2 bp bs w w' ∧ (res = false → pr' = pr ∧ TryNo n (Ed lv) pr sn i sn') ∧ (res = true → TryYes n (Ed lv) pr sn i pr')
set_option maxHeartbeats 4000000 in
set_option maxRecDepth 100000 in
theorem try_calls (n : Nat) (A : Option Addr) (c ba oa b bp bs : Nat) (lv : Nat → Int) (hn : n ≤ 4096) : ∀ (u : Nat) (w : World) (pr : Nat → Int) (sn : Nat → Bool) (i : Nat), uns n sn < u → MW n A c ba oa b bp bs lv w pr sn → Pre n (Ed lv) pr sn i →
    Calls Tryz.prog 99 #[.pointer (some ⟨b, 0, none⟩), .int .i64 i] w (TryR n A c ba oa b bp bs lv w pr sn i) := by
  intro u
  induction u with
  | zero => intro w pr sn i h; omega
  | succ u ih =>
  intro w pr sn i hu hm hp
  have IH := Aside0.mk ih
  have HP := Aside0.mk hp
  have hi : i < n := hp.lt
  clear ih hp
  have H0 : Aside0 (MW n A c ba oa b bp bs lv w pr sn) := ⟨hm⟩
  clear hm
  have HU := Aside0.mk hu
  clear hu
  go_enter Tryz.func99, Tryz.ntmps99
  go_wp2_with fail
  go_loopg [5] n (fun gk v5 wr => ∃ (k : Nat) (sn1 : Nat → Bool), v5 = .int .i64 (k : Int) ∧ Aside0 (k + gk = n) ∧ Aside0 (MW n A c ba oa b bp bs lv wr pr sn1) ∧ Aside0 (Mid n (Ed lv) pr sn i k sn1) ∧ Aside0 (Two2 bp bs w wr))
  case atStart => exact ⟨0, sn, rfl, ⟨by omega⟩, H0, ⟨mid_start pr sn i⟩, ⟨Two2.refl _ _ _⟩⟩
  case round =>
    obtain ⟨k, sn1, rfl, HI, HM, HD, HT⟩ := hrel
    have h0 := HM.out.c0
    by_cases hk : k < n
    · have hkd : decide (k < n) = true := decide_eq_true hk
      have hki : (k : Int) < (n : Int) := by omega
      have hii : (i : Int) < (n : Int) := by omega
      have h1 := HM.out.c1
      have h2 := HM.out.c2
      obtain ⟨rfl, hli⟩ := HM.out.la i hi
      have hlk := (HM.out.la k hk).2
      have hpk := HM.out.rp.cell hk
      have hsk := HM.out.rs.cell hk
      have hfs := HM.out.rs.frozen k
      have hfp := HM.out.rp.frozen k
      obtain ⟨x, hx⟩ : ∃ x, x = lv i := ⟨_, rfl⟩
      obtain ⟨y, hy⟩ : ∃ y, y = lv k := ⟨_, rfl⟩
      rw [← hx] at hli
      rw [← hy] at hlk
      have HXY := Aside0.mk (And.intro hx hy)
      clear hx hy
      by_cases hkeq : k = i
      · have e1 : ((k : Int) == (i : Int)) = true := beq_iff_eq.2 (by omega)
        go_wp2_with fail
        go_quiet (fail)
        go_wp2
        obtain ⟨g2, hg2⟩ : ∃ g2, g2 = gk - 1 := ⟨_, rfl⟩
        go_roundg g2
        case measure => have := HI.out; omega
        case rel => exact ⟨k + 1, sn1, by go_num, ⟨by have := HI.out; omega⟩, by first | exact ⟨HM.out⟩ | exact ⟨HM.out.drew⟩ | exact ⟨HM.out.drewN _⟩, ⟨mid_skip HD.out fun _ he => absurd hkeq he.1⟩, by first | exact ⟨HT.out⟩ | exact ⟨HT.out.drew⟩ | exact ⟨HT.out.drewN _⟩⟩
      · have e1 : ((k : Int) == (i : Int)) = false := beq_eq_false_iff_ne.2 (by omega)
        by_cases hE : Go.bits .and .i64 x y = x
        · have e2 : (Go.bits .and .i64 x y != x) = false := by rw [hE]; simp
          have HEd : Aside0 (Ed lv i k) := ⟨⟨hkeq, by rw [← HXY.out.1, ← HXY.out.2]; exact hE⟩⟩
          clear hE
          by_cases hS : sn1 k = true
          · rw [hS] at hsk
            go_wp2_with fail
            go_quiet (fail)
            go_wp2
            obtain ⟨g2, hg2⟩ : ∃ g2, g2 = gk - 1 := ⟨_, rfl⟩
            go_roundg g2
            case measure => have := HI.out; omega
            case rel => exact ⟨k + 1, sn1, by go_num, ⟨by have := HI.out; omega⟩, by first | exact ⟨HM.out⟩ | exact ⟨HM.out.drew⟩ | exact ⟨HM.out.drewN _⟩, ⟨mid_skip HD.out fun _ he => hS⟩, by first | exact ⟨HT.out⟩ | exact ⟨HT.out.drew⟩ | exact ⟨HT.out.drewN _⟩⟩
          · have hS' : sn1 k = false := by simpa using hS
            rw [hS'] at hsk
            have HS : Aside0 (¬ sn1 k = true) := ⟨hS⟩
            have HM1 : Aside0 (∀ m, MW n (some ⟨ba, oa, none⟩) c ba oa b bp bs lv ((wr.drewN m).setCell ⟨bs, k, none⟩ (.bool true)) pr (putB sn1 k)) := ⟨fun m => (HM.out.drewN m).see k⟩
            have k0 : ∀ m, ((wr.drewN m).setCell ⟨bs, k, none⟩ (.bool true)).cell? ⟨b, 0, none⟩ = some (.slice (some ⟨ba, oa, none⟩) n c) := fun m => (HM1.out m).c0
            have k1 : ∀ m, ((wr.drewN m).setCell ⟨bs, k, none⟩ (.bool true)).cell? ⟨b, 1, none⟩ = some (.slice (some ⟨bp, 0, none⟩) n n) := fun m => (HM1.out m).c1
            have k2 : ∀ m, ((wr.drewN m).setCell ⟨bs, k, none⟩ (.bool true)).cell? ⟨bp, k, none⟩ = some (.int .i64 (pr k)) := fun m => (HM1.out m).rp.cell hk
            have k3 : ∀ m, ((wr.drewN m).setCell ⟨bs, k, none⟩ (.bool true)).frozen? ⟨bp, k, none⟩ = false := fun m => (HM1.out m).rp.frozen k
            have HHK := Aside0.mk hk
            by_cases hP : pr k < 0
            · have hPd : decide (pr k < 0) = true := decide_eq_true hP
              clear hkeq hS hS'
              go_wp2_with fail
              go_quiet (fail)
              go_wp2
              go_ret
              exact ⟨true, put pr k i, putB sn1 k, rfl, (HM1.out _).give k i, ((HT.out.drewN _).set (.inr rfl) _).set (.inl rfl) _, fun h => (by cases h), fun _ => mid_free HP.out HD.out HHK.out HEd.out HS.out hP⟩
            · have hPd : decide (pr k < 0) = false := decide_eq_false hP
              obtain ⟨s, hsn, hse⟩ := (HP.out.rng k hk).pos (by omega)
              have HC : Aside0 (∀ m, Calls Tryz.prog 99 #[.pointer (some ⟨b, 0, none⟩), .int .i64 (pr k)] ((wr.drewN m).setCell ⟨bs, k, none⟩ (.bool true)) (TryR n (some ⟨ba, oa, none⟩) c ba oa b bp bs lv ((wr.drewN m).setCell ⟨bs, k, none⟩ (.bool true)) pr (putB sn1 k) s)) := ⟨fun m => by
                rw [hse]
                refine IH.out _ pr (putB sn1 k) s ?_ (HM1.out m) (mid_pre HP.out HD.out HHK.out HS.out hsn hse)
                have := uns_put (n := n) hk HS.out
                have := uns_mono (n := n) HD.out.ge
                have := HU.out
                omega⟩
              have HSE := Aside0.mk (And.intro hsn hse)
              clear hkeq hS hS' hsn hse
              go_wp2_with fail
              go_quiet (fail)
              go_wp2_with (first
                | (go_at_call 99; refine (HC.out _).mono ?_; clear k0 k1 k2 k3; rintro e w2 ⟨res, pr1, sn2, rfl, hm2, ht2, hno, hyes⟩; have HM2 := Aside0.mk hm2; have HT2 := Aside0.mk ht2; have HNO := Aside0.mk hno; have HYES := Aside0.mk hyes; clear hm2 ht2 hno hyes; have j0 := HM2.out.c0; have j1 := HM2.out.c1; have j2 := HM2.out.rp.cell HHK.out; have j3 := HM2.out.rp.frozen k; cases res))
              · have hno := HNO.out trivial
                obtain ⟨hpr, hno⟩ := hno
                subst hpr
                obtain ⟨g2, hg2⟩ : ∃ g2, g2 = gk - 1 := ⟨_, rfl⟩
                go_roundg g2
                case measure => have := HI.out; omega
                case rel => exact ⟨k + 1, sn2, by go_num, ⟨by have := HI.out; omega⟩, ⟨HM2.out⟩, ⟨mid_fail HD.out HHK.out HSE.out.1 HSE.out.2 hno⟩, ⟨((HT.out.drewN _).set (.inr rfl) _).trans HT2.out⟩⟩
              · go_ret
                exact ⟨true, put pr1 k i, sn2, rfl, HM2.out.give k i, (((HT.out.drewN _).set (.inr rfl) _).trans HT2.out).set (.inl rfl) _, fun h => (by cases h), fun _ => mid_yes HP.out HD.out HHK.out HEd.out HS.out HSE.out.1 HSE.out.2 (HYES.out trivial)⟩
        · have e2 : (Go.bits .and .i64 x y != x) = true := bne_iff_ne.2 hE
          have HE := Aside0.mk hE
          clear hE
          go_wp2_with fail
          go_quiet (fail)
          go_wp2
          obtain ⟨g2, hg2⟩ : ∃ g2, g2 = gk - 1 := ⟨_, rfl⟩
          go_roundg g2
          case measure => have := HI.out; omega
          case rel => exact ⟨k + 1, sn1, by go_num, ⟨by have := HI.out; omega⟩, by first | exact ⟨HM.out⟩ | exact ⟨HM.out.drew⟩ | exact ⟨HM.out.drewN _⟩, ⟨mid_skip HD.out fun _ he => absurd he.2 (by rw [← HXY.out.1, ← HXY.out.2]; exact HE.out)⟩, by first | exact ⟨HT.out⟩ | exact ⟨HT.out.drew⟩ | exact ⟨HT.out.drewN _⟩⟩
    · have hid : decide (k < n) = false := decide_eq_false hk
      go_wp2_with fail
      go_ret
      have hkn : k = n := by have := HI.out; omega
      subst hkn
      exact ⟨false, pr, sn1, rfl, HM.out, HT.out, fun _ => ⟨rfl, mid_end HD.out⟩, fun h => (by cases h)⟩
end Go.Proofs.YtcmllllbmgcnlaaGreat.Ch
end
section
namespace Go.Proofs.YtcmllllbmgcnlaaGreat.Ch
open Go.RowKit Go.Deep Go.Proofs.YtcmllllbmgcnlaaGreat.G Go.Proofs.YtcmllllbmgcnlaaGreat.Tup Go.Proofs.YtcmllllbmgcnlaaGreatW.PrintWords Go.Proofs.YtcmllllbmgcnlaaGreatW.PrintLast Go.Proofs.YtcmllllbmgcnlaaGreatW.PrintMore
set_option linter.unusedVariables false
set_option linter.unusedSimpArgs false
structure NB (n : Nat) (A : Option Addr) (ba : Nat) (lv : Nat → Int) (w0 : World) (bt bf : Nat) (wr : World) (tt fr : Nat → Int) : Prop where
  below : Below w0.heap.size w0 wr
  rt : wr.rowIs bt 3 n (fun k => .int .i64 (tt k))
  rf : wr.rowIs bf 3 n (fun k => .int .i64 (fr k))
  gt : w0.heap.size ≤ bt
  gf : w0.heap.size ≤ bf
  ne : bt ≠ bf
  la : ∀ k, k < n → A = some ⟨ba, 0, none⟩ ∧ w0.cell? ⟨ba, 0 + k, none⟩ = some (.int .i64 (lv k))
  lb : 0 < n → ba < w0.heap.size
section
variable {n : Nat} {A : Option Addr} {ba : Nat} {lv : Nat → Int} {w0 wr w2 : World} {bt bf bb : Nat} {tt fr by_ : Nat → Int}
theorem NB.cell (h : NB n A ba lv w0 bt bf wr tt fr) (k : Nat) (hk : k < n) : A = some ⟨ba, 0, none⟩ ∧ wr.cell? ⟨ba, 0 + k, none⟩ = some (.int .i64 (lv k)) :=
  ⟨(h.la k hk).1, by rw [h.below.cell (p := ⟨ba, 0 + k, none⟩) (h.lb (by omega))]; exact (h.la k hk).2⟩
theorem NB.drewN (h : NB n A ba lv w0 bt bf wr tt fr) (m : Nat) : NB n A ba lv w0 bt bf (wr.drewN m) tt fr := ⟨pw_below_drewN h.below m, h.rt, h.rf, h.gt, h.gf, h.ne, h.la, h.lb⟩
theorem NB.drew (h : NB n A ba lv w0 bt bf wr tt fr) : NB n A ba lv w0 bt bf wr.drew tt fr := ⟨h.below.drew, h.rt, h.rf, h.gt, h.gf, h.ne, h.la, h.lb⟩
theorem NB.alloc (h : NB n A ba lv w0 bt bf wr tt fr) (o : Obj) : NB n A ba lv w0 bt bf (wr.alloc o) tt fr := ⟨h.below.alloc h.below.size o, h.rt.alloc o, h.rf.alloc o, h.gt, h.gf, h.ne, h.la, h.lb⟩
theorem NB.setT (h : NB n A ba lv w0 bt bf wr tt fr) (k : Nat) (v : Int) : NB n A ba lv w0 bt bf (wr.setCell ⟨bt, k, none⟩ (.int .i64 v)) (put tt k v) fr :=
  ⟨h.below.setCell h.gt _, (h.rt.set k _).congr (fun j _ => by unfold put; by_cases e : j = k <;> simp [e]), h.rf.setOther h.ne.symm _, h.gt, h.gf, h.ne, h.la, h.lb⟩
theorem NB.setF (h : NB n A ba lv w0 bt bf wr tt fr) (k : Nat) (v : Int) : NB n A ba lv w0 bt bf (wr.setCell ⟨bf, k, none⟩ (.int .i64 v)) tt (put fr k v) :=
  ⟨h.below.setCell h.gf _, h.rt.setOther h.ne _, (h.rf.set k _).congr (fun j _ => by unfold put; by_cases e : j = k <;> simp [e]), h.gt, h.gf, h.ne, h.la, h.lb⟩
theorem NB.other (h : NB n A ba lv w0 bt bf wr tt fr) {a : Addr} (h1 : w0.heap.size ≤ a.block) (h2 : bt ≠ a.block) (h3 : bf ≠ a.block) (v : Value) : NB n A ba lv w0 bt bf (wr.setCell a v) tt fr :=
  ⟨h.below.setCell h1 _, h.rt.setOther h2 _, h.rf.setOther h3 _, h.gt, h.gf, h.ne, h.la, h.lb⟩
theorem NB.later {B : Nat} (h : NB n A ba lv w0 bt bf wr tt fr) (hb : Below B wr w2) (h0 : w0.heap.size ≤ B) (h1 : bt < B) (h2 : bf < B) : NB n A ba lv w0 bt bf w2 tt fr :=
  ⟨h.below.trans (hb.mono h0), h.rt.of_block (hb.block _ h1), h.rf.of_block (hb.block _ h2), h.gt, h.gf, h.ne, h.la, h.lb⟩
theorem NB.congr {tt' fr' : Nat → Int} (h : NB n A ba lv w0 bt bf wr tt fr) (e1 : ∀ k, k < n → tt k = tt' k) (e2 : ∀ k, k < n → fr k = fr' k) : NB n A ba lv w0 bt bf wr tt' fr' :=
  ⟨h.below, h.rt.congr fun k hk => by rw [e1 k hk], h.rf.congr fun k hk => by rw [e2 k hk], h.gt, h.gf, h.ne, h.la, h.lb⟩
structure NI (n : Nat) (A : Option Addr) (ba : Nat) (lv : Nat → Int) (w0 : World) (bt bf bb : Nat) (wr : World) (tt fr by_ : Nat → Int) : Prop where
  nb : NB n A ba lv w0 bt bf wr tt fr
  rb : wr.rowIs bb 3 n (fun k => .int .i64 (by_ k))
  ht : bt < bb
  hf : bf < bb
theorem NI.g0 (h : NI n A ba lv w0 bt bf bb wr tt fr by_) : w0.heap.size ≤ bb := by have := h.nb.gt; have := h.ht; omega
theorem NI.drewN (h : NI n A ba lv w0 bt bf bb wr tt fr by_) (m : Nat) : NI n A ba lv w0 bt bf bb (wr.drewN m) tt fr by_ := ⟨h.nb.drewN m, h.rb, h.ht, h.hf⟩
theorem NI.alloc (h : NI n A ba lv w0 bt bf bb wr tt fr by_) (o : Obj) : NI n A ba lv w0 bt bf bb (wr.alloc o) tt fr by_ := ⟨h.nb.alloc o, h.rb.alloc o, h.ht, h.hf⟩
theorem NI.setB (h : NI n A ba lv w0 bt bf bb wr tt fr by_) (k : Nat) (v : Int) : NI n A ba lv w0 bt bf bb (wr.setCell ⟨bb, k, none⟩ (.int .i64 v)) tt fr (put by_ k v) :=
  ⟨h.nb.other (a := ⟨bb, k, none⟩) h.g0 (by have := h.ht; show bt ≠ bb; omega) (by have := h.hf; show bf ≠ bb; omega) _, (h.rb.set k _).congr (fun j _ => by unfold put; by_cases e : j = k <;> simp [e]), h.ht, h.hf⟩
theorem NI.setT (h : NI n A ba lv w0 bt bf bb wr tt fr by_) (k : Nat) (v : Int) : NI n A ba lv w0 bt bf bb (wr.setCell ⟨bt, k, none⟩ (.int .i64 v)) (put tt k v) fr by_ :=
  ⟨h.nb.setT k v, h.rb.setOther (by have := h.ht; show bb ≠ bt; omega) _, h.ht, h.hf⟩
theorem NI.setF (h : NI n A ba lv w0 bt bf bb wr tt fr by_) (k : Nat) (v : Int) : NI n A ba lv w0 bt bf bb (wr.setCell ⟨bf, k, none⟩ (.int .i64 v)) tt (put fr k v) by_ :=
  ⟨h.nb.setF k v, h.rb.setOther (by have := h.hf; show bb ≠ bf; omega) _, h.ht, h.hf⟩
theorem NI.later (h : NI n A ba lv w0 bt bf bb wr tt fr by_) (hb : Below (bb + 1) wr w2) : NI n A ba lv w0 bt bf bb w2 tt fr by_ :=
  ⟨h.nb.later hb (by have := h.g0; omega) (by have := h.ht; omega) (by have := h.hf; omega), h.rb.of_block (hb.block _ (by omega)), h.ht, h.hf⟩
theorem NI.congr {by' : Nat → Int} (h : NI n A ba lv w0 bt bf bb wr tt fr by_) (e : ∀ k, k < n → by_ k = by' k) : NI n A ba lv w0 bt bf bb wr tt fr by' :=
  ⟨h.nb, h.rb.congr fun k hk => by rw [e k hk], h.ht, h.hf⟩
theorem ni_start (h : NB n A ba lv w0 bt bf wr tt fr) : NI n A ba lv w0 bt bf wr.heap.size (wr.alloc (.cells (madeCells #[.int .i64 0] n) 3)) tt fr (fun _ => 0) :=
  ⟨h.alloc _, World.rowIs_made wr (.int .i64 0) n 3, h.rt.lt, h.rf.lt⟩
end
abbrev Qu (wr : World) (bb : Nat) (v : Value) (todo : List Nat) : Prop := Kd.Q (Kd.int .i64) 3 wr (bb + 1) (fun k => bb < k) v (todo.map fun s : Nat => (s : Int))
theorem qu_start (wr : World) (bb : Nat) (hb : bb < wr.heap.size) (i : Nat) : Qu (wr.alloc (.cells #[.int .i64 (i : Int)] 3)) bb (.slice (some ⟨wr.heap.size, 0, none⟩) 1 1) [i] := by
  refine Kd.Q_of_R (Kd.R_of_own (h1 := fun _ => rfl) ⟨rfl, .inr ⟨wr.heap.size, 1, #[.int .i64 (i : Int)], rfl, hb, (by show (wr.heap.push _)[wr.heap.size]? = _; simp), Nat.le_refl _, by decide, rfl, rfl⟩⟩ fun k hk => ?_)
  have : wr.heap.size = k := by simpa [Value.ownBlock] using hk
  omega
theorem qu_below {wr : World} {bb : Nat} {v : Value} {todo : List Nat} (h : Qu wr bb v todo) {a : Addr} (ha : a.block ≤ bb) (u : Value) : Qu (wr.setCell a u) bb v todo :=
  Kd.Q_far h (fun k hk => by have : bb < k := hk; omega) u
end Go.Proofs.YtcmllllbmgcnlaaGreat.Ch
end
