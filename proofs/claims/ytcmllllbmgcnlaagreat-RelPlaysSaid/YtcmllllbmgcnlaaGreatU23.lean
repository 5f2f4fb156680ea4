/- Own texts, joined and cut to what the claim stands on: ChNext2, ChRows, ChRows2, ChPick. -/
import Derived.Deep.QuietTactic
import Derived.WalkMore
import Derived.Laws.BitsAllLaws
import Derived.Test.YtcmllllbmgcnlaaGreatU22
import Derived.Test.YtcmllllbmgcnlaaGreatU21
section
namespace Go.Proofs.YtcmllllbmgcnlaaGreat.Ch
open Go.RowKit Go.Deep Go.Proofs.YtcmllllbmgcnlaaGreat.G Go.Proofs.YtcmllllbmgcnlaaGreat.Tup Go.Proofs.YtcmllllbmgcnlaaGreatW.PrintWords Go.Proofs.YtcmllllbmgcnlaaGreatW.PrintLast Go.Proofs.YtcmllllbmgcnlaaGreatW.PrintMore
set_option linter.unusedVariables false
set_option linter.unusedSimpArgs false
theorem next_make {n : Nat} {A : Option Addr} {ba : Nat} {lv : Nat → Int} {w0 : World} (la : ∀ k, k < n → A = some ⟨ba, 0, none⟩ ∧ w0.cell? ⟨ba, 0 + k, none⟩ = some (.int .i64 (lv k))) (lb : 0 < n → ba < w0.heap.size) {wr : World} (hb : Below w0.heap.size w0 wr) :
  NB n A ba lv w0 wr.heap.size (wr.heap.size + 1) ((wr.alloc (.cells (madeCells #[.int .i64 0] n) 3)).alloc (.cells (madeCells #[.int .i64 0] n) 3)) (fun _ => 0) (fun _ => 0) := by
 have h1 := World.rowIs_made wr (.int .i64 0) n 3
 have h2 := World.rowIs_made (wr.alloc (.cells (madeCells #[.int .i64 0] n) 3)) (.int .i64 0) n 3
 have e : (wr.alloc (.cells (madeCells #[.int .i64 0] n) 3)).heap.size = wr.heap.size + 1 := by simp
 rw [e] at h2
 exact ⟨(hb.alloc hb.size _).alloc (by rw [e]; have := hb.size; omega) _, h1.alloc _, h2, hb.size, by have := hb.size; omega, by omega, la, lb⟩
theorem NB.swap {n : Nat} {A : Option Addr} {ba : Nat} {lv : Nat → Int} {w0 wr : World} {bt bf : Nat} {tt fr : Nat → Int} (h : NB n A ba lv w0 bt bf wr tt fr) : NB n A ba lv w0 bf bt wr fr tt :=
 ⟨h.below, h.rf, h.rt, h.gf, h.gt, h.ne.symm, h.la, h.lb⟩
def NextR (n : Nat) (A : Option Addr) (ba : Nat) (lv : Nat → Int) (w : World) (e : Ending) (w' : World) : Prop :=
 ∃ bt bf tt fr, e = .returned (.slice (some ⟨bt, 0, none⟩) n n) ∧ NB n A ba lv w bt bf w' tt fr ∧ NextO n (Ed lv) tt fr n
set_option maxHeartbeats 8000000 in
set_option maxRecDepth 100000 in
theorem next_calls (n : Nat) (A : Option Addr) (c ba : Nat) (lv : Nat → Int) (w : World) (hn : n ≤ 256) (la : ∀ k, k < n → A = some ⟨ba, 0, none⟩ ∧ w.cell? ⟨ba, 0 + k, none⟩ = some (.int .i64 (lv k))) (lb : 0 < n → ba < w.heap.size) :
  Calls Tryz.prog 85 #[.slice A n c] w (NextR n A ba lv w) := by
 have hmk := run_make_row' (P := Tryz.prog) 23 3 (.int .i64 0) 8 Tryz.underlying23 info3 rfl .i64 .i64 n (by omega) (by omega)
 have HNB : Aside0 (∀ m, NB n A ba lv w w.heap.size (w.heap.size + 1) (((w.drewN m).alloc (.cells (madeCells #[.int .i64 0] n) 3)).alloc (.cells (madeCells #[.int .i64 0] n) 3)) (fun _ => 0) (fun _ => 0)) := ⟨fun m => next_make la lb (pw_below_drewN (Below.refl _ w) m)⟩
 clear la lb
 go_enter Tryz.func85, Tryz.ntmps85
 go_wp2_with fail
 go_step3
 go_wp2_with fail
 go_region
 all_goals go_wp2_with fail
 ·have H0 : Aside0 (NB n A ba lv w w.heap.size (w.heap.size + 1) (((w.alloc (.cells (madeCells #[.int .i64 0] n) 3)).alloc (.cells (madeCells #[.int .i64 0] n) 3)).drew) (fun _ => 0) (fun _ => 0)) := ⟨by have := (HNB.out 0).drew; rw [World.drewN_zero] at this; exact this⟩
  clear HNB
  generalize ((w.alloc (.cells (madeCells #[.int .i64 0] n) 3)).alloc (.cells (madeCells #[.int .i64 0] n) 3)).drew = W at H0 ⊢
  generalize hbf : w.heap.size + 1 = bf at H0 ⊢
  generalize hbt : w.heap.size = bt at H0 ⊢
  clear hbf hbt
  go_loopg [21] n (fun gk v21 wr => ∃ k : Nat, v21 = .int .i64 (k : Int) ∧ Aside0 (k + gk = n) ∧ Aside0 (NB n A ba lv w bt bf wr (fun j => if j < k then -1 else 0) (fun j => if j < k then -1 else 0)))
  case atStart => exact ⟨0, rfl, ⟨by omega⟩, ⟨H0.out.congr (fun k _ => by simp) (fun k _ => by simp)⟩⟩
  case round =>
   obtain ⟨k, rfl, HK, HL⟩ := hrel
   by_cases hk : k < n
   ·have hkd : decide (k < n) = true := decide_eq_true hk
    have hki : (k : Int) < (n : Int) := by omega
    have h2 := HL.out.rt.cell hk
    simp only [Nat.lt_irrefl, if_false] at h2
    have h3 := HL.out.rt.frozen k
    have h4 : ∀ v, (wr.setCell ⟨bt, k, none⟩ v).cell? ⟨bf, k, none⟩ = some (.int .i64 0) := fun v => by
     rw [cell_ne _ _ (by show bf ≠ bt; exact HL.out.ne.symm)]
     have := HL.out.rf.cell hk
     simpa using this
    have h5 : ∀ v, (wr.setCell ⟨bt, k, none⟩ v).frozen? ⟨bf, k, none⟩ = false := fun v => (HL.out.rf.setOther (by show bf ≠ bt; exact HL.out.ne.symm) v).frozen k
    go_wp2_with fail
    obtain ⟨g2, hg2⟩ : ∃ g2, g2 = gk - 1 := ⟨_, rfl⟩
    go_roundg g2
    case measure => have := HK.out; omega
    case rel =>
     refine ⟨k + 1, by go_num, ⟨by have := HK.out; omega⟩, ⟨((HL.out.setT k (-1)).setF k (-1)).congr (fun j _ => ?_) (fun j _ => ?_)⟩⟩
     all_goals
      show (if j = k then (-1 : Int) else if j < k then -1 else 0) = if j < k + 1 then -1 else 0
      by_cases e : j = k
      ·rw [if_pos e, if_pos (by omega)]
      ·rw [if_neg e]
       by_cases h : j < k
       ·rw [if_pos h, if_pos (by omega)]
       ·rw [if_neg h, if_neg (by omega)]
   ·have hkd : decide (k < n) = false := decide_eq_false hk
    have HL0 : Aside0 (NB n A ba lv w bt bf wr (fun _ => -1) (fun _ => -1)) := ⟨HL.out.congr (fun j hj => by rw [if_pos (by have := HK.out; omega)]) (fun j hj => by rw [if_pos (by have := HK.out; omega)])⟩
    clear H0 HL HK
    go_wp2_with fail
    go_step3
    go_wp2_with fail
    clear hkd hk
    go_loopg [33] n (fun gk v33 wr => ∃ (i : Nat) (tt fr : Nat → Int), v33 = .int .i64 (i : Int) ∧ Aside0 (i + gk = n) ∧ Aside0 (NextO n (Ed lv) tt fr i) ∧ Aside0 (NB n A ba lv w bt bf wr tt fr))
    case atStart => exact ⟨0, _, _, rfl, ⟨by omega⟩, ⟨nextO_start n (Ed lv)⟩, HL0⟩
    case round =>
     obtain ⟨i, tt, fr, rfl, HI, HO, HL⟩ := hrel
     by_cases hi : i < n
     ·have hid : decide (i < n) = true := decide_eq_true hi
      have hii : (i : Int) < (n : Int) := by omega
      have HNI := Aside0.mk (ni_start HL.out)
      obtain ⟨bb, hbb⟩ : ∃ bb, bb = wr.heap.size := ⟨_, rfl⟩
      rw [← hbb] at HNI
      go_wp2_with fail
      rw [← hbb]
      have HBB := Aside0.mk hbb
      clear hbb hid
      go_loopg [41] n (fun gk v41 wr => ∃ k : Nat, v41 = .int .i64 (k : Int) ∧ Aside0 (k + gk = n) ∧ Aside0 (NI n A ba lv w bt bf bb wr tt fr (fun j => if j < k then -1 else 0)))
      case atStart => exact ⟨0, rfl, ⟨by omega⟩, ⟨HNI.out.congr (fun k _ => by simp)⟩⟩
      case round =>
       obtain ⟨k, rfl, HK, HL3⟩ := hrel
       by_cases hk : k < n
       ·have hkd : decide (k < n) = true := decide_eq_true hk
        have hki : (k : Int) < (n : Int) := by omega
        have h2 := HL3.out.rb.cell hk
        simp only [Nat.lt_irrefl, if_false] at h2
        have h3 := HL3.out.rb.frozen k
        go_wp2_with fail
        obtain ⟨g2, hg2⟩ : ∃ g2, g2 = gk - 1 := ⟨_, rfl⟩
        go_roundg g2
        case measure => have := HK.out; omega
        case rel =>
         refine ⟨k + 1, by go_num, ⟨by have := HK.out; omega⟩, ⟨(HL3.out.setB k (-1)).congr (fun j _ => ?_)⟩⟩
         show (if j = k then (-1 : Int) else if j < k then -1 else 0) = if j < k + 1 then -1 else 0
         by_cases e : j = k
         ·rw [if_pos e, if_pos (by omega)]
         ·rw [if_neg e]
          by_cases h : j < k
          ·rw [if_pos h, if_pos (by omega)]
          ·rw [if_neg h, if_neg (by omega)]
       ·have hkd : decide (k < n) = false := decide_eq_false hk
        have HN3 : Aside0 (NI n A ba lv w bt bf bb wr tt fr (fun _ => -1)) := ⟨HL3.out.congr (fun j hj => by rw [if_pos (by have := HK.out; omega)])⟩
        clear HNI HL3 HK
        have HQ0 : Aside0 (Qu (wr.alloc (.cells #[.int .i64 (i : Int)] 3)) bb (.slice (some ⟨wr.heap.size, 0, none⟩) 1 1) [i]) := ⟨qu_start wr bb HN3.out.rb.lt i⟩
        have HN4 : Aside0 (NI n A ba lv w bt bf bb (wr.alloc (.cells #[.int .i64 (i : Int)] 3)) tt fr (fun _ => -1)) := ⟨HN3.out.alloc _⟩
        have HIL := Aside0.mk hi
        go_wp2_with fail
        clear hkd hk
        go_loopg [9] (2 * n + 1) (fun gk v9 wr => ∃ (by_ : Nat → Int) (todo : List Nat), Aside0 (Qu wr bb v9 todo) ∧ Aside0 (NI n A ba lv w bt bf bb wr tt fr by_) ∧ Aside0 (Bfs n (Ed lv) tt fr i by_ todo none) ∧ Aside0 (2 * unr n by_ + todo.length ≤ gk ∧ 2 * unr n by_ + todo.length ≤ 2 * n + 1))
        case atStart => exact ⟨_, [i], HQ0, HN4, ⟨bfs_start HIL.out⟩, ⟨by have := unr_le n (fun _ => -1); simp only [List.length_cons, List.length_nil]; omega, by have := unr_le n (fun _ => -1); simp only [List.length_cons, List.length_nil]; omega⟩⟩
        case round =>
         obtain ⟨by_, todo, HQ, HN5, HBF, HME⟩ := hrel
         rcases todo with _ | ⟨s, rest⟩
         ·obtain ⟨Aq, cq, rfl, hlq⟩ := Kd.Q_slice HQ.out
          simp only [List.map_nil, List.length_nil] at HQ hlq ⊢
          go_wp2_with fail
          obtain ⟨g2, hg2⟩ : ∃ g2, g2 = n - (i + 1) := ⟨_, rfl⟩
          go_roundg g2
          case measure => have := HI.out; have := HIL.out; omega
          case rel =>
           refine ⟨i + 1, tt, fr, by go_num, ⟨by have := HI.out; have := HIL.out; omega⟩, ⟨?_⟩, ⟨HN5.out.nb⟩⟩
           obtain ⟨hm, D, hd⟩ := HO.out
           exact bfs_fail HIL.out hm hd HBF.out
         ·obtain ⟨g, o, cap, rfl, hgb, hgl, _⟩ := Kd.Q_form HQ.out (by simp)
          have hml : (List.map (fun s : Nat => (s : Int)) (s :: rest)).length = rest.length + 1 := by simp
          rw [hml] at HQ ⊢
          have hcap := (Kd.Q_reads' HQ.out).2.1
          have hq0 := (Kd.Q_cell 0 HQ.out 0 (by decide) (by omega)).1
          simp only [rdOf, List.map_cons, Int.toNat_zero, List.getD_cons_zero, Nat.add_zero] at hq0
          have hp : (0 : Int) < ((rest.length : Int) + 1) := by omega
          obtain ⟨m, hm⟩ : ∃ m, m = rest.length := ⟨_, rfl⟩
          rw [← hm] at HQ hp hcap ⊢
          have HMR := Aside0.mk hm
          obtain ⟨A1, hA1⟩ : ∃ A1 : Option Addr, (if cap = 1 then some (⟨g, o, none⟩ : Addr) else some ⟨g, o + 1, none⟩) = A1 := ⟨_, rfl⟩
          have HQ1 : Aside0 (Qu wr bb (.slice A1 m (cap - 1)) rest) := ⟨by
           have := Kd.Q_drop HQ.out (k := 1) (by simp)
           rw [← hA1]
           have hsz : (Kd.int .i64).sz = 1 := rfl
           rw [hsz] at this
           simpa [Addr.add] using this⟩
          clear hm hml
          have HB1 := Aside0.mk (bfs_pop HBF.out)
          obtain ⟨gq, hgq⟩ : ∃ gq, gq = gk - 1 := ⟨_, rfl⟩
          have HM1 : Aside0 (2 * unr n by_ + rest.length ≤ gq ∧ 2 * unr n by_ + rest.length ≤ 2 * n + 1 ∧ gq < gk) := ⟨by have := HME.out; simp only [List.length_cons] at this; omega⟩
          go_wp2_with fail
          clear hA1 hq0 hcap hp hgb hgl hgq
          go_loopg [9, 60] n (fun gk v9 v60 wr => ∃ (k : Nat) (by2 : Nat → Int) (todo : List Nat), v60 = .int .i64 (k : Int) ∧ Aside0 (k + gk = n) ∧ Aside0 (Qu wr bb v9 todo) ∧ Aside0 (NI n A ba lv w bt bf bb wr tt fr by2) ∧ Aside0 (Bfs n (Ed lv) tt fr i by2 todo (some (s, k))) ∧ Aside0 (2 * unr n by2 + todo.length ≤ gq ∧ 2 * unr n by2 + todo.length ≤ 2 * n + 1))
          case atStart => exact ⟨0, by_, rest, rfl, ⟨by omega⟩, HQ1, HN5, HB1, ⟨by have := HM1.out; omega⟩⟩
          case round =>
           obtain ⟨k, by2, todo, rfl, HK5, HQ5, HN6, HB5, HM5⟩ := hrel
           obtain ⟨Aq, cq, hv, hlcq⟩ := Kd.Q_slice HQ5.out
           rw [List.length_map] at hv
           subst hv
           clear hlcq
           by_cases hk : k < n
           ·have hkd : decide (k < n) = true := decide_eq_true hk
            have hki : (k : Int) < (n : Int) := by omega
            have hs : s < n := (HB5.out.curr s k rfl).1
            have hsi : (s : Int) < (n : Int) := by omega
            obtain ⟨rfl, hls⟩ := HN6.out.nb.cell s hs
            have hlk := (HN6.out.nb.cell k hk).2
            have hbk := HN6.out.rb.cell hk
            have hfk := HN6.out.nb.rf.cell hk
            simp only [Nat.zero_add] at hls hlk
            obtain ⟨x, hx⟩ : ∃ x, x = lv s := ⟨_, rfl⟩
            obtain ⟨y, hy⟩ : ∃ y, y = lv k := ⟨_, rfl⟩
            rw [← hx] at hls
            rw [← hy] at hlk
            have HXY := Aside0.mk (And.intro hx hy)
            have HHK := Aside0.mk hk
            clear hx hy
            by_cases hkeq : k = s
            ·have e1 : ((k : Int) == (s : Int)) = true := beq_iff_eq.2 (by omega)
             go_wp2_with fail
             go_quiet (fail)
             go_wp2
             obtain ⟨g2, hg2⟩ : ∃ g2, g2 = gk - 1 := ⟨_, rfl⟩
             go_roundg g2
             case measure => have := HK5.out; omega
             case rel => exact ⟨k + 1, by2, todo, by go_num, ⟨by have := HK5.out; omega⟩, by first | exact ⟨HQ5.out⟩ | exact ⟨Kd.Q_drewN HQ5.out _⟩, by first | exact ⟨HN6.out⟩ | exact ⟨HN6.out.drewN _⟩, ⟨bfs_skip HB5.out fun _ he => absurd hkeq he.1⟩, HM5⟩
            ·have e1 : ((k : Int) == (s : Int)) = false := beq_eq_false_iff_ne.2 (by omega)
             by_cases hE : Go.bits .and .i64 x y = x
             ·have e2 : (Go.bits .and .i64 x y != x) = false := by rw [hE]; simp
              have HEd : Aside0 (Ed lv s k) := ⟨⟨hkeq, by rw [← HXY.out.1, ← HXY.out.2]; exact hE⟩⟩
              clear hE
              by_cases hB : 0 ≤ by2 k
              ·have hBd : decide (0 ≤ by2 k) = true := decide_eq_true hB
               go_wp2_with fail
               go_quiet (fail)
               go_wp2
               obtain ⟨g2, hg2⟩ : ∃ g2, g2 = gk - 1 := ⟨_, rfl⟩
               go_roundg g2
               case measure => have := HK5.out; omega
               case rel => exact ⟨k + 1, by2, todo, by go_num, ⟨by have := HK5.out; omega⟩, by first | exact ⟨HQ5.out⟩ | exact ⟨Kd.Q_drewN HQ5.out _⟩, by first | exact ⟨HN6.out⟩ | exact ⟨HN6.out.drewN _⟩, ⟨bfs_skip HB5.out fun _ he => hB⟩, HM5⟩
              ·have hBd : decide (0 ≤ by2 k) = false := decide_eq_false hB
               have hBn : by2 k < 0 := by omega
               have HBN := Aside0.mk hBn
               have hfb := HN6.out.rb.frozen k
               have HN7 : Aside0 (∀ m, NI n (some ⟨ba, 0, none⟩) ba lv w bt bf bb ((wr.drewN m).setCell ⟨bb, k, none⟩ (.int .i64 (s : Int))) tt fr (put by2 k s)) := ⟨fun m => (HN6.out.drewN m).setB k s⟩
               have HQ7 : Aside0 (∀ m, Qu ((wr.drewN m).setCell ⟨bb, k, none⟩ (.int .i64 (s : Int))) bb (.slice Aq todo.length cq) todo) := ⟨fun m => qu_below (Kd.Q_drewN HQ5.out m) (Nat.le_refl _) _⟩
               have j1 : ∀ m, ((wr.drewN m).setCell ⟨bb, k, none⟩ (.int .i64 (s : Int))).cell? ⟨bf, k, none⟩ = some (.int .i64 (fr k)) := fun m => (HN7.out m).nb.rf.cell hk
               clear hB hBn hfk
               by_cases hF : 0 ≤ fr k
               ·have hFd : decide (0 ≤ fr k) = true := decide_eq_true hF
                obtain ⟨f, hfn, hfe⟩ := (HO.out.1.rf k hk).pos hF
                have HFE := Aside0.mk (And.intro hfn hfe)
                have HLT : Aside0 (todo.length ≤ 2 * n + 1) := ⟨by have := HM5.out; omega⟩
                clear hfn hfe hF
                go_wp2_with fail
                go_quiet (fail)
                go_wp2_with (first
                 | ((with_reducible refine gate_builtin (b := .append) (xs := #[.tmp 98, .tmp 103]) rfl ?_); at_builtin; refine Kd.Q_append (Kd.int .i64) (w0 := (wr.drewN nq).setCell ⟨bb, k, none⟩ (.int .i64 (s : Int))) (bb + 1) rfl (.tmp 98) (.tmp 103) 23 3 (.int .i64 0) 8 rfl Tryz.underlying23 info3 rfl (by decide) (by decide) (.slice Aq todo.length cq) (todo.map fun s : Nat => (s : Int)) (fr k) [.int .i64 (fr k)] (fun k => bb < k) (fun _ => False) rfl ?hx rfl (fun _ h => h.elim) ?aF (HQ7.out nq) (Below.refl _ _) ?aS ?aL ?_; (case hx => have hsz : ((wr.drewN nq).setCell ⟨bb, k, none⟩ (.int .i64 (s : Int))).heap.size = wr.heap.size := by { simp }; rw [hsz]; rfl); (case aF => exact (fun k' hk' => by have := (HN7.out nq).rb.lt; omega)); (case aS => exact (HN7.out nq).rb.lt); (case aL => have := HLT.out; rw [List.length_map]; omega); intro v1 w1 q1 b1 g1 t1; have HQ8 := Aside0.mk q1; have HN8 := Aside0.mk ((HN7.out nq).later b1); clear q1 b1 g1 t1 j1))
                obtain ⟨g2, hg2⟩ : ∃ g2, g2 = gk - 1 := ⟨_, rfl⟩
                go_roundg g2
                case measure => have := HK5.out; omega
                case rel =>
                 have hfe := HFE.out.2
                 refine ⟨k + 1, put by2 k s, todo ++ [f], by go_num, ⟨by have := HK5.out; omega⟩, ⟨?_⟩, HN8, ⟨bfs_push HO.out.1 HB5.out HHK.out HEd.out HBN.out hfe HFE.out.1⟩, ⟨?_⟩⟩
                 ·have := HQ8.out
                  rw [hfe] at this
                  unfold Qu
                  rw [List.map_append]
                  exact this
                 ·have h1 := unr_put (s := s) HHK.out HBN.out
                  have h2 := HM5.out
                  simp only [List.length_append, List.length_cons, List.length_nil]
                  omega
               ·have hFd : decide (0 ≤ fr k) = false := decide_eq_false hF
                have hF' : fr k < 0 := by omega
                obtain ⟨hmt, D, hdd⟩ := HO.out
                obtain ⟨dep, hdt, hAu⟩ := aug_start hmt hdd HB5.out HHK.out HEd.out HBN.out hF'
                have HMD := Aside0.mk (And.intro hmt hdd)
                have HDT := Aside0.mk hdt
                have HAU := Aside0.mk hAu
                obtain ⟨by3, hby3⟩ : ∃ by3, by3 = put by2 k s := ⟨_, rfl⟩
                rw [← hby3] at HDT HAU HN7
                clear hmt hdd hdt hAu hF hF' hby3
                go_wp2_with fail
                go_quiet (fail)
                go_wp2_with fail
                have HN9 := Aside0.mk (HN7.out nq)
                clear j1 HN7 HQ7
                go_loopg [11] (dep k + 1) (fun gk v11 wr => ∃ (cur : Int) (tt2 fr2 : Nat → Int), v11 = .int .i64 cur ∧ Aside0 (Aug n (Ed lv) tt fr D i by3 dep cur tt2 fr2) ∧ Aside0 (NI n (some ⟨ba, 0, none⟩) ba lv w bt bf bb wr tt2 fr2 by3) ∧ Aside0 (∀ q : Nat, cur = q → dep q < gk))
                case atStart => exact ⟨(k : Int), tt, fr, rfl, HAU, HN9, ⟨fun q hq => (by have e : q = k := (by omega); subst e; exact Nat.lt_succ_self _)⟩⟩
                case round =>
                 obtain ⟨cur, tt2, fr2, rfl, HA6, HN10, HG6⟩ := hrel
                 by_cases hc : 0 ≤ cur
                 ·have hcd : decide (0 ≤ cur) = true := decide_eq_true hc
                  obtain ⟨k6, hk6, rfl⟩ := HA6.out.pl.pos hc
                  have hti : tt i = -1 := HMD.out.2.later i (Nat.le_refl _) HIL.out
                  obtain ⟨s6, hs6, hb6, hp6, hA7, hd7⟩ := aug_step HIL.out hti HMD.out.1 HMD.out.2 HDT.out HA6.out
                  have HA7 := Aside0.mk hA7
                  have HD7 := Aside0.mk hd7
                  have m1 := HN10.out.rb.cell hk6
                  rw [hb6] at m1
                  have m2 := HN10.out.nb.rt.cell hs6
                  have m3 := HN10.out.nb.rt.frozen s6
                  have m4 : ∀ v, (wr.setCell ⟨bt, s6, none⟩ v).cell? ⟨bf, k6, none⟩ = some (.int .i64 (fr2 k6)) := fun v => by
                   rw [cell_ne _ _ (by show bf ≠ bt; exact HN10.out.nb.ne.symm)]
                   exact HN10.out.nb.rf.cell hk6
                  have m5 : ∀ v, (wr.setCell ⟨bt, s6, none⟩ v).frozen? ⟨bf, k6, none⟩ = false := fun v => (HN10.out.nb.rf.setOther (by show bf ≠ bt; exact HN10.out.nb.ne.symm) v).frozen k6
                  have hk6i : (k6 : Int) < (n : Int) := by omega
                  have hs6i : (s6 : Int) < (n : Int) := by omega
                  clear hA7 hd7 hti hb6 hp6
                  go_wp2_with fail
                  obtain ⟨g2, hg2⟩ : ∃ g2, g2 = dep k6 := ⟨_, rfl⟩
                  go_roundg g2
                  case measure => have := HG6.out k6 rfl; omega
                  case rel => exact ⟨tt2 s6, _, _, rfl, HA7, ⟨(HN10.out.setT s6 k6).setF k6 s6⟩, ⟨fun q hq => by rw [hg2]; exact HD7.out q hq⟩⟩
                 ·have hcd : decide (0 ≤ cur) = false := decide_eq_false hc
                  go_wp2_with fail
                  obtain ⟨g2, hg2⟩ : ∃ g2, g2 = n - (i + 1) := ⟨_, rfl⟩
                  go_roundg g2
                  case measure => have := HI.out; have := HIL.out; omega
                  case rel =>
                   have hcur : cur = -1 := HA6.out.pl.neg (by omega)
                   subst hcur
                   exact ⟨i + 1, tt2, fr2, by go_num, ⟨by have := HI.out; have := HIL.out; omega⟩, ⟨aug_done HIL.out HMD.out.2 HMD.out.1 HA6.out⟩, ⟨HN10.out.nb⟩⟩
             ·have e2 : (Go.bits .and .i64 x y != x) = true := bne_iff_ne.2 hE
              have HE := Aside0.mk hE
              clear hE
              go_wp2_with fail
              go_quiet (fail)
              go_wp2
              obtain ⟨g2, hg2⟩ : ∃ g2, g2 = gk - 1 := ⟨_, rfl⟩
              go_roundg g2
              case measure => have := HK5.out; omega
              case rel => exact ⟨k + 1, by2, todo, by go_num, ⟨by have := HK5.out; omega⟩, by first | exact ⟨HQ5.out⟩ | exact ⟨Kd.Q_drewN HQ5.out _⟩, by first | exact ⟨HN6.out⟩ | exact ⟨HN6.out.drewN _⟩, ⟨bfs_skip HB5.out fun _ he => absurd he.2 (by rw [← HXY.out.1, ← HXY.out.2]; exact HE.out)⟩, HM5⟩
           ·have hkd : decide (k < n) = false := decide_eq_false hk
            go_wp2_with fail
            have hkn : k = n := by have := HK5.out; omega
            obtain ⟨g2, hg2⟩ : ∃ g2, g2 = gq := ⟨_, rfl⟩
            go_roundg g2
            case measure => have := HM1.out; omega
            case rel => exact ⟨by2, todo, HQ5, HN6, ⟨by have := HB5.out; rw [hkn] at this; exact bfs_done this⟩, ⟨by have := HM5.out; omega⟩⟩
     ·have hid : decide (i < n) = false := decide_eq_false hi
      go_wp2_with fail
      rw [Exit.noGoto_ret]
      go_ret
      have hin : i = n := by have := HI.out; omega
      subst hin
      exact ⟨bt, bf, tt, fr, rfl, HL.out, HO.out⟩
 ·have H0 : Aside0 (NB n A ba lv w (w.heap.size + 1) w.heap.size (((w.alloc (.cells (madeCells #[.int .i64 0] n) 3)).alloc (.cells (madeCells #[.int .i64 0] n) 3)).drew) (fun _ => 0) (fun _ => 0)) := ⟨by have := (HNB.out 0).swap.drew; rw [World.drewN_zero] at this; exact this⟩
  clear HNB
  generalize ((w.alloc (.cells (madeCells #[.int .i64 0] n) 3)).alloc (.cells (madeCells #[.int .i64 0] n) 3)).drew = W at H0 ⊢
  generalize hbf : w.heap.size + 1 = bt at H0 ⊢
  generalize hbt : w.heap.size = bf at H0 ⊢
  clear hbf hbt
  go_loopg [21] n (fun gk v21 wr => ∃ k : Nat, v21 = .int .i64 (k : Int) ∧ Aside0 (k + gk = n) ∧ Aside0 (NB n A ba lv w bt bf wr (fun j => if j < k then -1 else 0) (fun j => if j < k then -1 else 0)))
  case atStart => exact ⟨0, rfl, ⟨by omega⟩, ⟨H0.out.congr (fun k _ => by simp) (fun k _ => by simp)⟩⟩
  case round =>
   obtain ⟨k, rfl, HK, HL⟩ := hrel
   by_cases hk : k < n
   ·have hkd : decide (k < n) = true := decide_eq_true hk
    have hki : (k : Int) < (n : Int) := by omega
    have h2 := HL.out.rt.cell hk
    simp only [Nat.lt_irrefl, if_false] at h2
    have h3 := HL.out.rt.frozen k
    have h4 : ∀ v, (wr.setCell ⟨bt, k, none⟩ v).cell? ⟨bf, k, none⟩ = some (.int .i64 0) := fun v => by
     rw [cell_ne _ _ (by show bf ≠ bt; exact HL.out.ne.symm)]
     have := HL.out.rf.cell hk
     simpa using this
    have h5 : ∀ v, (wr.setCell ⟨bt, k, none⟩ v).frozen? ⟨bf, k, none⟩ = false := fun v => (HL.out.rf.setOther (by show bf ≠ bt; exact HL.out.ne.symm) v).frozen k
    go_wp2_with fail
    obtain ⟨g2, hg2⟩ : ∃ g2, g2 = gk - 1 := ⟨_, rfl⟩
    go_roundg g2
    case measure => have := HK.out; omega
    case rel =>
     refine ⟨k + 1, by go_num, ⟨by have := HK.out; omega⟩, ⟨((HL.out.setT k (-1)).setF k (-1)).congr (fun j _ => ?_) (fun j _ => ?_)⟩⟩
     all_goals
      show (if j = k then (-1 : Int) else if j < k then -1 else 0) = if j < k + 1 then -1 else 0
      by_cases e : j = k
      ·rw [if_pos e, if_pos (by omega)]
      ·rw [if_neg e]
       by_cases h : j < k
       ·rw [if_pos h, if_pos (by omega)]
       ·rw [if_neg h, if_neg (by omega)]
   ·have hkd : decide (k < n) = false := decide_eq_false hk
    have HL0 : Aside0 (NB n A ba lv w bt bf wr (fun _ => -1) (fun _ => -1)) := ⟨HL.out.congr (fun j hj => by rw [if_pos (by have := HK.out; omega)]) (fun j hj => by rw [if_pos (by have := HK.out; omega)])⟩
    clear H0 HL HK
    go_wp2_with fail
    go_step3
    go_wp2_with fail
    clear hkd hk
    go_loopg [33] n (fun gk v33 wr => ∃ (i : Nat) (tt fr : Nat → Int), v33 = .int .i64 (i : Int) ∧ Aside0 (i + gk = n) ∧ Aside0 (NextO n (Ed lv) tt fr i) ∧ Aside0 (NB n A ba lv w bt bf wr tt fr))
    case atStart => exact ⟨0, _, _, rfl, ⟨by omega⟩, ⟨nextO_start n (Ed lv)⟩, HL0⟩
    case round =>
     obtain ⟨i, tt, fr, rfl, HI, HO, HL⟩ := hrel
     by_cases hi : i < n
     ·have hid : decide (i < n) = true := decide_eq_true hi
      have hii : (i : Int) < (n : Int) := by omega
      have HNI := Aside0.mk (ni_start HL.out)
      obtain ⟨bb, hbb⟩ : ∃ bb, bb = wr.heap.size := ⟨_, rfl⟩
      rw [← hbb] at HNI
      go_wp2_with fail
      rw [← hbb]
      have HBB := Aside0.mk hbb
      clear hbb hid
      go_loopg [41] n (fun gk v41 wr => ∃ k : Nat, v41 = .int .i64 (k : Int) ∧ Aside0 (k + gk = n) ∧ Aside0 (NI n A ba lv w bt bf bb wr tt fr (fun j => if j < k then -1 else 0)))
      case atStart => exact ⟨0, rfl, ⟨by omega⟩, ⟨HNI.out.congr (fun k _ => by simp)⟩⟩
      case round =>
       obtain ⟨k, rfl, HK, HL3⟩ := hrel
       by_cases hk : k < n
       ·have hkd : decide (k < n) = true := decide_eq_true hk
        have hki : (k : Int) < (n : Int) := by omega
        have h2 := HL3.out.rb.cell hk
        simp only [Nat.lt_irrefl, if_false] at h2
        have h3 := HL3.out.rb.frozen k
        go_wp2_with fail
        obtain ⟨g2, hg2⟩ : ∃ g2, g2 = gk - 1 := ⟨_, rfl⟩
        go_roundg g2
        case measure => have := HK.out; omega
        case rel =>
         refine ⟨k + 1, by go_num, ⟨by have := HK.out; omega⟩, ⟨(HL3.out.setB k (-1)).congr (fun j _ => ?_)⟩⟩
         show (if j = k then (-1 : Int) else if j < k then -1 else 0) = if j < k + 1 then -1 else 0
         by_cases e : j = k
         ·rw [if_pos e, if_pos (by omega)]
         ·rw [if_neg e]
          by_cases h : j < k
          ·rw [if_pos h, if_pos (by omega)]
          ·rw [if_neg h, if_neg (by omega)]
       ·have hkd : decide (k < n) = false := decide_eq_false hk
        have HN3 : Aside0 (NI n A ba lv w bt bf bb wr tt fr (fun _ => -1)) := ⟨HL3.out.congr (fun j hj => by rw [if_pos (by have := HK.out; omega)])⟩
        clear HNI HL3 HK
        have HQ0 : Aside0 (Qu (wr.alloc (.cells #[.int .i64 (i : Int)] 3)) bb (.slice (some ⟨wr.heap.size, 0, none⟩) 1 1) [i]) := ⟨qu_start wr bb HN3.out.rb.lt i⟩
        have HN4 : Aside0 (NI n A ba lv w bt bf bb (wr.alloc (.cells #[.int .i64 (i : Int)] 3)) tt fr (fun _ => -1)) := ⟨HN3.out.alloc _⟩
        have HIL := Aside0.mk hi
        go_wp2_with fail
        clear hkd hk
        go_loopg [9] (2 * n + 1) (fun gk v9 wr => ∃ (by_ : Nat → Int) (todo : List Nat), Aside0 (Qu wr bb v9 todo) ∧ Aside0 (NI n A ba lv w bt bf bb wr tt fr by_) ∧ Aside0 (Bfs n (Ed lv) tt fr i by_ todo none) ∧ Aside0 (2 * unr n by_ + todo.length ≤ gk ∧ 2 * unr n by_ + todo.length ≤ 2 * n + 1))
        case atStart => exact ⟨_, [i], HQ0, HN4, ⟨bfs_start HIL.out⟩, ⟨by have := unr_le n (fun _ => -1); simp only [List.length_cons, List.length_nil]; omega, by have := unr_le n (fun _ => -1); simp only [List.length_cons, List.length_nil]; omega⟩⟩
        case round =>
         obtain ⟨by_, todo, HQ, HN5, HBF, HME⟩ := hrel
         rcases todo with _ | ⟨s, rest⟩
         ·obtain ⟨Aq, cq, rfl, hlq⟩ := Kd.Q_slice HQ.out
          simp only [List.map_nil, List.length_nil] at HQ hlq ⊢
          go_wp2_with fail
          obtain ⟨g2, hg2⟩ : ∃ g2, g2 = n - (i + 1) := ⟨_, rfl⟩
          go_roundg g2
          case measure => have := HI.out; have := HIL.out; omega
          case rel =>
           refine ⟨i + 1, tt, fr, by go_num, ⟨by have := HI.out; have := HIL.out; omega⟩, ⟨?_⟩, ⟨HN5.out.nb⟩⟩
           obtain ⟨hm, D, hd⟩ := HO.out
           exact bfs_fail HIL.out hm hd HBF.out
         ·obtain ⟨g, o, cap, rfl, hgb, hgl, _⟩ := Kd.Q_form HQ.out (by simp)
          have hml : (List.map (fun s : Nat => (s : Int)) (s :: rest)).length = rest.length + 1 := by simp
          rw [hml] at HQ ⊢
          have hcap := (Kd.Q_reads' HQ.out).2.1
          have hq0 := (Kd.Q_cell 0 HQ.out 0 (by decide) (by omega)).1
          simp only [rdOf, List.map_cons, Int.toNat_zero, List.getD_cons_zero, Nat.add_zero] at hq0
          have hp : (0 : Int) < ((rest.length : Int) + 1) := by omega
          obtain ⟨m, hm⟩ : ∃ m, m = rest.length := ⟨_, rfl⟩
          rw [← hm] at HQ hp hcap ⊢
          have HMR := Aside0.mk hm
          obtain ⟨A1, hA1⟩ : ∃ A1 : Option Addr, (if cap = 1 then some (⟨g, o, none⟩ : Addr) else some ⟨g, o + 1, none⟩) = A1 := ⟨_, rfl⟩
          have HQ1 : Aside0 (Qu wr bb (.slice A1 m (cap - 1)) rest) := ⟨by
           have := Kd.Q_drop HQ.out (k := 1) (by simp)
           rw [← hA1]
           have hsz : (Kd.int .i64).sz = 1 := rfl
           rw [hsz] at this
           simpa [Addr.add] using this⟩
          clear hm hml
          have HB1 := Aside0.mk (bfs_pop HBF.out)
          obtain ⟨gq, hgq⟩ : ∃ gq, gq = gk - 1 := ⟨_, rfl⟩
          have HM1 : Aside0 (2 * unr n by_ + rest.length ≤ gq ∧ 2 * unr n by_ + rest.length ≤ 2 * n + 1 ∧ gq < gk) := ⟨by have := HME.out; simp only [List.length_cons] at this; omega⟩
          go_wp2_with fail
          clear hA1 hq0 hcap hp hgb hgl hgq
          go_loopg [9, 60] n (fun gk v9 v60 wr => ∃ (k : Nat) (by2 : Nat → Int) (todo : List Nat), v60 = .int .i64 (k : Int) ∧ Aside0 (k + gk = n) ∧ Aside0 (Qu wr bb v9 todo) ∧ Aside0 (NI n A ba lv w bt bf bb wr tt fr by2) ∧ Aside0 (Bfs n (Ed lv) tt fr i by2 todo (some (s, k))) ∧ Aside0 (2 * unr n by2 + todo.length ≤ gq ∧ 2 * unr n by2 + todo.length ≤ 2 * n + 1))
          case atStart => exact ⟨0, by_, rest, rfl, ⟨by omega⟩, HQ1, HN5, HB1, ⟨by have := HM1.out; omega⟩⟩
          case round =>
           obtain ⟨k, by2, todo, rfl, HK5, HQ5, HN6, HB5, HM5⟩ := hrel
           obtain ⟨Aq, cq, hv, hlcq⟩ := Kd.Q_slice HQ5.out
           rw [List.length_map] at hv
           subst hv
           clear hlcq
           by_cases hk : k < n
           ·have hkd : decide (k < n) = true := decide_eq_true hk
            have hki : (k : Int) < (n : Int) := by omega
            have hs : s < n := (HB5.out.curr s k rfl).1
            have hsi : (s : Int) < (n : Int) := by omega
            obtain ⟨rfl, hls⟩ := HN6.out.nb.cell s hs
            have hlk := (HN6.out.nb.cell k hk).2
            have hbk := HN6.out.rb.cell hk
            have hfk := HN6.out.nb.rf.cell hk
            simp only [Nat.zero_add] at hls hlk
            obtain ⟨x, hx⟩ : ∃ x, x = lv s := ⟨_, rfl⟩
            obtain ⟨y, hy⟩ : ∃ y, y = lv k := ⟨_, rfl⟩
            rw [← hx] at hls
            rw [← hy] at hlk
            have HXY := Aside0.mk (And.intro hx hy)
            have HHK := Aside0.mk hk
            clear hx hy
            by_cases hkeq : k = s
            ·have e1 : ((k : Int) == (s : Int)) = true := beq_iff_eq.2 (by omega)
             go_wp2_with fail
             go_quiet (fail)
             go_wp2
             obtain ⟨g2, hg2⟩ : ∃ g2, g2 = gk - 1 := ⟨_, rfl⟩
             go_roundg g2
             case measure => have := HK5.out; omega
             case rel => exact ⟨k + 1, by2, todo, by go_num, ⟨by have := HK5.out; omega⟩, by first | exact ⟨HQ5.out⟩ | exact ⟨Kd.Q_drewN HQ5.out _⟩, by first | exact ⟨HN6.out⟩ | exact ⟨HN6.out.drewN _⟩, ⟨bfs_skip HB5.out fun _ he => absurd hkeq he.1⟩, HM5⟩
            ·have e1 : ((k : Int) == (s : Int)) = false := beq_eq_false_iff_ne.2 (by omega)
             by_cases hE : Go.bits .and .i64 x y = x
             ·have e2 : (Go.bits .and .i64 x y != x) = false := by rw [hE]; simp
              have HEd : Aside0 (Ed lv s k) := ⟨⟨hkeq, by rw [← HXY.out.1, ← HXY.out.2]; exact hE⟩⟩
              clear hE
              by_cases hB : 0 ≤ by2 k
              ·have hBd : decide (0 ≤ by2 k) = true := decide_eq_true hB
               go_wp2_with fail
               go_quiet (fail)
               go_wp2
               obtain ⟨g2, hg2⟩ : ∃ g2, g2 = gk - 1 := ⟨_, rfl⟩
               go_roundg g2
               case measure => have := HK5.out; omega
               case rel => exact ⟨k + 1, by2, todo, by go_num, ⟨by have := HK5.out; omega⟩, by first | exact ⟨HQ5.out⟩ | exact ⟨Kd.Q_drewN HQ5.out _⟩, by first | exact ⟨HN6.out⟩ | exact ⟨HN6.out.drewN _⟩, ⟨bfs_skip HB5.out fun _ he => hB⟩, HM5⟩
              ·have hBd : decide (0 ≤ by2 k) = false := decide_eq_false hB
               have hBn : by2 k < 0 := by omega
               have HBN := Aside0.mk hBn
               have hfb := HN6.out.rb.frozen k
               have HN7 : Aside0 (∀ m, NI n (some ⟨ba, 0, none⟩) ba lv w bt bf bb ((wr.drewN m).setCell ⟨bb, k, none⟩ (.int .i64 (s : Int))) tt fr (put by2 k s)) := ⟨fun m => (HN6.out.drewN m).setB k s⟩
               have HQ7 : Aside0 (∀ m, Qu ((wr.drewN m).setCell ⟨bb, k, none⟩ (.int .i64 (s : Int))) bb (.slice Aq todo.length cq) todo) := ⟨fun m => qu_below (Kd.Q_drewN HQ5.out m) (Nat.le_refl _) _⟩
               have j1 : ∀ m, ((wr.drewN m).setCell ⟨bb, k, none⟩ (.int .i64 (s : Int))).cell? ⟨bf, k, none⟩ = some (.int .i64 (fr k)) := fun m => (HN7.out m).nb.rf.cell hk
               clear hB hBn hfk
               by_cases hF : 0 ≤ fr k
               ·have hFd : decide (0 ≤ fr k) = true := decide_eq_true hF
                obtain ⟨f, hfn, hfe⟩ := (HO.out.1.rf k hk).pos hF
                have HFE := Aside0.mk (And.intro hfn hfe)
                have HLT : Aside0 (todo.length ≤ 2 * n + 1) := ⟨by have := HM5.out; omega⟩
                clear hfn hfe hF
                go_wp2_with fail
                go_quiet (fail)
                go_wp2_with (first
                 | ((with_reducible refine gate_builtin (b := .append) (xs := #[.tmp 98, .tmp 103]) rfl ?_); at_builtin; refine Kd.Q_append (Kd.int .i64) (w0 := (wr.drewN nq).setCell ⟨bb, k, none⟩ (.int .i64 (s : Int))) (bb + 1) rfl (.tmp 98) (.tmp 103) 23 3 (.int .i64 0) 8 rfl Tryz.underlying23 info3 rfl (by decide) (by decide) (.slice Aq todo.length cq) (todo.map fun s : Nat => (s : Int)) (fr k) [.int .i64 (fr k)] (fun k => bb < k) (fun _ => False) rfl ?hx rfl (fun _ h => h.elim) ?aF (HQ7.out nq) (Below.refl _ _) ?aS ?aL ?_; (case hx => have hsz : ((wr.drewN nq).setCell ⟨bb, k, none⟩ (.int .i64 (s : Int))).heap.size = wr.heap.size := by { simp }; rw [hsz]; rfl); (case aF => exact (fun k' hk' => by have := (HN7.out nq).rb.lt; omega)); (case aS => exact (HN7.out nq).rb.lt); (case aL => have := HLT.out; rw [List.length_map]; omega); intro v1 w1 q1 b1 g1 t1; have HQ8 := Aside0.mk q1; have HN8 := Aside0.mk ((HN7.out nq).later b1); clear q1 b1 g1 t1 j1))
                obtain ⟨g2, hg2⟩ : ∃ g2, g2 = gk - 1 := ⟨_, rfl⟩
                go_roundg g2
                case measure => have := HK5.out; omega
                case rel =>
                 have hfe := HFE.out.2
                 refine ⟨k + 1, put by2 k s, todo ++ [f], by go_num, ⟨by have := HK5.out; omega⟩, ⟨?_⟩, HN8, ⟨bfs_push HO.out.1 HB5.out HHK.out HEd.out HBN.out hfe HFE.out.1⟩, ⟨?_⟩⟩
                 ·have := HQ8.out
                  rw [hfe] at this
                  unfold Qu
                  rw [List.map_append]
                  exact this
                 ·have h1 := unr_put (s := s) HHK.out HBN.out
                  have h2 := HM5.out
                  simp only [List.length_append, List.length_cons, List.length_nil]
                  omega
               ·have hFd : decide (0 ≤ fr k) = false := decide_eq_false hF
                have hF' : fr k < 0 := by omega
                obtain ⟨hmt, D, hdd⟩ := HO.out
                obtain ⟨dep, hdt, hAu⟩ := aug_start hmt hdd HB5.out HHK.out HEd.out HBN.out hF'
                have HMD := Aside0.mk (And.intro hmt hdd)
                have HDT := Aside0.mk hdt
                have HAU := Aside0.mk hAu
                obtain ⟨by3, hby3⟩ : ∃ by3, by3 = put by2 k s := ⟨_, rfl⟩
                rw [← hby3] at HDT HAU HN7
                clear hmt hdd hdt hAu hF hF' hby3
                go_wp2_with fail
                go_quiet (fail)
                go_wp2_with fail
                have HN9 := Aside0.mk (HN7.out nq)
                clear j1 HN7 HQ7
                go_loopg [11] (dep k + 1) (fun gk v11 wr => ∃ (cur : Int) (tt2 fr2 : Nat → Int), v11 = .int .i64 cur ∧ Aside0 (Aug n (Ed lv) tt fr D i by3 dep cur tt2 fr2) ∧ Aside0 (NI n (some ⟨ba, 0, none⟩) ba lv w bt bf bb wr tt2 fr2 by3) ∧ Aside0 (∀ q : Nat, cur = q → dep q < gk))
                case atStart => exact ⟨(k : Int), tt, fr, rfl, HAU, HN9, ⟨fun q hq => (by have e : q = k := (by omega); subst e; exact Nat.lt_succ_self _)⟩⟩
                case round =>
                 obtain ⟨cur, tt2, fr2, rfl, HA6, HN10, HG6⟩ := hrel
                 by_cases hc : 0 ≤ cur
                 ·have hcd : decide (0 ≤ cur) = true := decide_eq_true hc
                  obtain ⟨k6, hk6, rfl⟩ := HA6.out.pl.pos hc
                  have hti : tt i = -1 := HMD.out.2.later i (Nat.le_refl _) HIL.out
                  obtain ⟨s6, hs6, hb6, hp6, hA7, hd7⟩ := aug_step HIL.out hti HMD.out.1 HMD.out.2 HDT.out HA6.out
                  have HA7 := Aside0.mk hA7
                  have HD7 := Aside0.mk hd7
                  have m1 := HN10.out.rb.cell hk6
                  rw [hb6] at m1
                  have m2 := HN10.out.nb.rt.cell hs6
                  have m3 := HN10.out.nb.rt.frozen s6
                  have m4 : ∀ v, (wr.setCell ⟨bt, s6, none⟩ v).cell? ⟨bf, k6, none⟩ = some (.int .i64 (fr2 k6)) := fun v => by
                   rw [cell_ne _ _ (by show bf ≠ bt; exact HN10.out.nb.ne.symm)]
                   exact HN10.out.nb.rf.cell hk6
                  have m5 : ∀ v, (wr.setCell ⟨bt, s6, none⟩ v).frozen? ⟨bf, k6, none⟩ = false := fun v => (HN10.out.nb.rf.setOther (by show bf ≠ bt; exact HN10.out.nb.ne.symm) v).frozen k6
                  have hk6i : (k6 : Int) < (n : Int) := by omega
                  have hs6i : (s6 : Int) < (n : Int) := by omega
                  clear hA7 hd7 hti hb6 hp6
                  go_wp2_with fail
                  obtain ⟨g2, hg2⟩ : ∃ g2, g2 = dep k6 := ⟨_, rfl⟩
                  go_roundg g2
                  case measure => have := HG6.out k6 rfl; omega
                  case rel => exact ⟨tt2 s6, _, _, rfl, HA7, ⟨(HN10.out.setT s6 k6).setF k6 s6⟩, ⟨fun q hq => by rw [hg2]; exact HD7.out q hq⟩⟩
                 ·have hcd : decide (0 ≤ cur) = false := decide_eq_false hc
                  go_wp2_with fail
                  obtain ⟨g2, hg2⟩ : ∃ g2, g2 = n - (i + 1) := ⟨_, rfl⟩
                  go_roundg g2
                  case measure => have := HI.out; have := HIL.out; omega
                  case rel =>
                   have hcur : cur = -1 := HA6.out.pl.neg (by omega)
                   subst hcur
                   exact ⟨i + 1, tt2, fr2, by go_num, ⟨by have := HI.out; have := HIL.out; omega⟩, ⟨aug_done HIL.out HMD.out.2 HMD.out.1 HA6.out⟩, ⟨HN10.out.nb⟩⟩
             ·have e2 : (Go.bits .and .i64 x y != x) = true := bne_iff_ne.2 hE
              have HE := Aside0.mk hE
              clear hE
              go_wp2_with fail
              go_quiet (fail)
              go_wp2
              obtain ⟨g2, hg2⟩ : ∃ g2, g2 = gk - 1 := ⟨_, rfl⟩
              go_roundg g2
              case measure => have := HK5.out; omega
              case rel => exact ⟨k + 1, by2, todo, by go_num, ⟨by have := HK5.out; omega⟩, by first | exact ⟨HQ5.out⟩ | exact ⟨Kd.Q_drewN HQ5.out _⟩, by first | exact ⟨HN6.out⟩ | exact ⟨HN6.out.drewN _⟩, ⟨bfs_skip HB5.out fun _ he => absurd he.2 (by rw [← HXY.out.1, ← HXY.out.2]; exact HE.out)⟩, HM5⟩
           ·have hkd : decide (k < n) = false := decide_eq_false hk
            go_wp2_with fail
            have hkn : k = n := by have := HK5.out; omega
            obtain ⟨g2, hg2⟩ : ∃ g2, g2 = gq := ⟨_, rfl⟩
            go_roundg g2
            case measure => have := HM1.out; omega
            case rel => exact ⟨by2, todo, HQ5, HN6, ⟨by have := HB5.out; rw [hkn] at this; exact bfs_done this⟩, ⟨by have := HM5.out; omega⟩⟩
     ·have hid : decide (i < n) = false := decide_eq_false hi
      go_wp2_with fail
      rw [Exit.noGoto_ret]
      go_ret
      have hin : i = n := by have := HI.out; omega
      subst hin
      exact ⟨bt, bf, tt, fr, rfl, HL.out, HO.out⟩
end Go.Proofs.YtcmllllbmgcnlaaGreat.Ch
end
section
namespace Go.Proofs.YtcmllllbmgcnlaaGreat.Ch
open Go.RowKit Go.Lib Go.Proofs.YtcmllllbmgcnlaaGreat.G Go.Proofs.YtcmllllbmgcnlaaGreat.Tup Go.Proofs.YtcmllllbmgcnlaaGreatW.PrintWords
set_option linter.unusedVariables false
set_option linter.unusedSimpArgs false
theorem i64_and_nat (a b : Nat) (ha : a < 256) (hb : b < 256) : Go.bits .and .i64 (a : Int) (b : Int) = ((a &&& b : Nat) : Int) := by
 have hx : a &&& b < 2 ^ 8 := Nat.and_lt_two_pow _ (by omega)
 show IntKind.i64.wrap ((BitVec.ofInt 64 (a : Int) &&& BitVec.ofInt 64 (b : Int)).toNat : Int) = _
 rw [BitVec.toNat_and, ofInt_u64 a (by omega), ofInt_u64 b (by omega), IntKind.wrap_i64]
 omega
theorem i64_and (a b : Int) (h1 : 0 ≤ a) (h2 : a < 256) (h3 : 0 ≤ b) (h4 : b < 256) : Go.bits .and .i64 a b = ((a.toNat &&& b.toNat : Nat) : Int) := by
 obtain ⟨A, rfl⟩ := Int.eq_ofNat_of_zero_le h1
 obtain ⟨B, rfl⟩ := Int.eq_ofNat_of_zero_le h3
 simpa using i64_and_nat A B (by omega) (by omega)
theorem and_le {a b : Int} (h1 : 0 ≤ a) (h2 : a < 256) (h3 : 0 ≤ b) (h4 : b < 256) (h : Go.bits .and .i64 a b = a) : a ≤ b := by
 rw [i64_and a b h1 h2 h3 h4] at h
 have : a.toNat &&& b.toNat ≤ b.toNat := Nat.and_le_right
 omega
theorem unS_sorted (l : List Int) : (unS l).Pairwise (· < ·) := by
 obtain ⟨d, hd⟩ : ∃ d, d = (l.mergeSort fun x y => decide (x ≤ y)).toArray := ⟨_, rfl⟩
 have hsort : (l.mergeSort fun x y => decide (x ≤ y)).Pairwise (fun a b => decide (a ≤ b) = true) := List.pairwise_mergeSort (fun a b c h1 h2 => by simp at h1 h2 ⊢; omega) (fun a b => by simp; omega) l
 have hs : ∀ i j, i < j → j < d.size → d[i]! ≤ d[j]! := fun i j hij hj => by
  have hjl : j < (l.mergeSort fun x y => decide (x ≤ y)).length := by rw [hd] at hj; simpa using hj
  have := List.pairwise_iff_getElem.1 hsort i j (by omega) hjl hij
  rw [getElem!_pos d i (by omega), getElem!_pos d j hj]
  subst hd
  simpa using this
 unfold unS
 rw [← hd]
 exact (compact_spec hs d.size (Nat.le_refl _)).1.sublist List.filter_sublist
theorem edge_up {u : List Int} (hu : u.Pairwise (· < ·)) (h8 : ∀ x ∈ u, 0 ≤ x ∧ x < 256) {s k : Nat} (hs : s < u.length) (hk : k < u.length) (h : Ed (fun k => u[k]!) s k) : s < k := by
 obtain ⟨hne, he⟩ := h
 simp only [getElem!_pos u k hk, getElem!_pos u s hs] at he
 have h1 := h8 u[s] (List.getElem_mem _)
 have h2 := h8 u[k] (List.getElem_mem _)
 have h3 := and_le h1.1 h1.2 h2.1 h2.2 he
 rcases Nat.lt_trichotomy s k with h | h | h
 ·exact h
 ·exact absurd h.symm hne
 ·have := List.pairwise_iff_getElem.1 hu k s hk hs h
  omega
def rowFrom (tt : Nat → Int) : Nat → Int → List Nat
 | 0, _ => []
 | f + 1, k => if k < 0 then [] else k.toNat :: rowFrom tt f (tt k.toNat)
theorem rowFrom_neg (tt : Nat → Int) (f : Nat) (k : Int) (h : k < 0) : rowFrom tt f k = [] := by
 cases f with
 | zero => rfl
 | succ f => simp [rowFrom, h]
section
variable {n : Nat} {E : Nat → Nat → Prop} {tt fr : Nat → Int}
theorem rowFrom_fuel (hm : Mt n E (-1) tt fr) (hup : ∀ s k, s < n → k < n → E s k → s < k) : ∀ (f g k : Nat), k < n → n - k ≤ f → n - k ≤ g → rowFrom tt f k = rowFrom tt g k
 | 0, _, k, hk, hf, _ => by omega
 | f + 1, 0, k, hk, _, hg => by omega
 | f + 1, g + 1, k, hk, hf, hg => by
  simp only [rowFrom]
  rw [if_neg (by omega), if_neg (by omega), Int.toNat_natCast]
  congr 1
  rcases hm.rt k hk with e | ⟨q, hq, e⟩
  ·rw [rowFrom_neg _ _ _ (by omega), rowFrom_neg _ _ _ (by omega)]
  ·have := hup k q hk hq (hm.tf k hk q e).2.1
   rw [e]
   exact rowFrom_fuel hm hup f g q hq (by omega) (by omega)
theorem rowFrom_step (hm : Mt n E (-1) tt fr) (hup : ∀ s k, s < n → k < n → E s k → s < k) (k : Nat) (hk : k < n) : rowFrom tt n k = k :: rowFrom tt n (tt k) := by
 obtain ⟨m, rfl⟩ : ∃ m, n = m + 1 := ⟨n - 1, by omega⟩
 show (if (k : Int) < 0 then [] else (k : Int).toNat :: rowFrom tt m (tt (k : Int).toNat)) = _
 rw [if_neg (by omega), Int.toNat_natCast]
 congr 1
 rcases hm.rt k hk with e | ⟨q, hq, e⟩
 ·rw [rowFrom_neg _ _ _ (by omega), rowFrom_neg _ _ _ (by omega)]
 ·have := hup k q hk hq (hm.tf k hk q e).2.1
  rw [e]
  exact rowFrom_fuel hm hup m (m + 1) q hq (by omega) (by omega)
theorem in_row (hm : Mt n E (-1) tt fr) (hup : ∀ s k, s < n → k < n → E s k → s < k) : ∀ (j : Nat), j < n → ∃ (i : Nat) (pre : List Nat), i < n ∧ fr i < 0 ∧ rowFrom tt n i = pre ++ rowFrom tt n j := by
 intro j
 induction j using Nat.strongRecOn with
 | _ j ih =>
  intro hj
  rcases hm.rf j hj with e | ⟨s, hs, e⟩
  ·exact ⟨j, [], hj, by omega, rfl⟩
  ·have hto := hm.ft j hj (by omega) s e
   have hlt := hup s j hs hj (hm.tf s hs j hto).2.1
   obtain ⟨i, pre, hi, hfi, h⟩ := ih s hlt hs
   refine ⟨i, pre ++ [s], hi, hfi, ?_⟩
   rw [h, rowFrom_step hm hup s hs, hto]
   simp
end
end Go.Proofs.YtcmllllbmgcnlaaGreat.Ch
end
section
namespace Go.Proofs.YtcmllllbmgcnlaaGreat.Ch
open Go.RowKit Go.Proofs.YtcmllllbmgcnlaaGreat.G Go.Proofs.YtcmllllbmgcnlaaGreat.Tup Go.Proofs.YtcmllllbmgcnlaaGreatW.PrintWords Go.Proofs.YtcmllllbmgcnlaaGreatW.PrintLast Go.Proofs.YtcmllllbmgcnlaaGreatW.PrintMore
set_option linter.unusedVariables false
set_option linter.unusedSimpArgs false
theorem index_loop (l : List Int) (x : Int) (hn : l.length ≤ 9223372036854775806) : ∀ (rest pre : List Int) (k : Nat), l = pre ++ rest → rest.length < k → x ∉ pre →
  ∃ r, slices_Index_int_int.l0 k l x (l.length : Int) (pre.length : Int) = some r ∧ (0 ≤ r ↔ x ∈ l)
 | [], pre, 0, _, hk, _ => by omega
 | [], pre, k + 1, hp, hk, hx => by
  have e : pre.length = l.length := by rw [hp]; simp
  simp only [slices_Index_int_int.l0]
  rw [if_neg (by omega)]
  refine ⟨-1, rfl, fun h => absurd h (by decide), fun h => ?_⟩
  rw [hp] at h
  simp at h
  exact absurd h hx
 | y :: rest, pre, 0, _, hk, _ => by omega
 | y :: rest, pre, k + 1, hp, hk, hx => by
  have e : l.length = pre.length + rest.length + 1 := by rw [hp]; simp; omega
  have hp' : l = (pre ++ [y]) ++ rest := by rw [hp]; simp
  have ew : wrap64 ((pre.length : Int) + 1) = ((pre ++ [y]).length : Int) := by rw [wrap_nat _ (by omega)]; simp
  have erd : rd l (pre.length : Int) = y := rd_at hp
  simp only [List.length_cons] at hk
  simp only [slices_Index_int_int.l0]
  rw [if_pos (by omega), if_pos (by omega), if_pos (by omega), erd, ew]
  by_cases h : x = y
  ·rw [if_pos h]
   exact ⟨_, rfl, fun _ => by rw [hp, h]; simp, fun _ => by omega⟩
  ·rw [if_neg h]
   exact index_loop l x hn rest (pre ++ [y]) k hp' (by omega) (by simp [hx, h])
theorem contains_calls (A : Option Addr) (c : Nat) (l : List Int) (x : Int) (w : World) (h : Sl w A c l) (hn : l.length ≤ 4096) :
  Calls Tryz.prog 62 #[.slice A l.length c, .int .i64 x] w fun e w' => e = .returned (.bool (decide (x ∈ l))) ∧ Drawn0 w w' := by
 refine slices_Contains_int_int.calls (l.length + 1) _ _ l _ _ w h.C h.le ?_
 obtain ⟨r, h1, h2⟩ := index_loop l x (by omega) l [] (l.length + 1) rfl (by omega) (by simp)
 unfold slices_Contains_int_int.f slices_Index_int_int.f
 rw [show (([] : List Int).length : Int) = 0 from rfl] at h1
 rw [h1]
 simp only [Option.bind_some]
 congr 1
 by_cases hx : x ∈ l
 ·rw [decide_eq_true hx, decide_eq_true (h2.2 hx)]
 ·rw [decide_eq_false hx, decide_eq_false fun h => hx (h2.1 h)]
def pickS (s : Int) : Nat → List (List Int) → Int × Bool
 | _, [] => (0, false)
 | i, o :: os => if (coverS o s).2 = true then ((i : Int), true) else pickS s (i + 1) os
theorem len_bound : ∀ os : List (List Int), ∃ B, ∀ o ∈ os, o.length ≤ B
 | [] => ⟨0, fun _ h => by cases h⟩
 | o :: os => by
  obtain ⟨B, h⟩ := len_bound os
  refine ⟨B + o.length, fun p hp => ?_⟩
  rcases List.mem_cons.1 hp with rfl | hp
  ·omega
  ·have := h p hp; omega
theorem rdL_at' {xs pre rest : List (List Int)} {c : List Int} (h : xs = pre ++ c :: rest) : rd_L1 xs (pre.length : Int) = c := by
 subst h; simp [rd_L1]
theorem pick_loop (s : Int) (os : List (List Int)) (hn : os.length ≤ 9223372036854775806) (B : Nat) (hB : ∀ o ∈ os, o.length ≤ B) : ∀ (rest pre : List (List Int)) (k : Nat), os = pre ++ rest → B + 13 + rest.length < k →
  chain_Pick.l0 k s os (os.length : Int) (pre.length : Int) = some (pickS s pre.length rest)
 | [], pre, 0, _, hk => by omega
 | [], pre, k + 1, hp, hk => by
  have e : pre.length = os.length := by rw [hp]; simp
  simp only [chain_Pick.l0]
  rw [if_neg (by omega)]
  rfl
 | o :: rest, pre, 0, _, hk => by omega
 | o :: rest, pre, k + 1, hp, hk => by
  have e : os.length = pre.length + rest.length + 1 := by rw [hp]; simp; omega
  have hp' : os = (pre ++ [o]) ++ rest := by rw [hp]; simp
  have ew : wrap64 ((pre.length : Int) + 1) = ((pre ++ [o]).length : Int) := by rw [wrap_nat _ (by omega)]; simp
  have ho : o.length ≤ B := hB o (by rw [hp]; simp)
  simp only [List.length_cons] at hk
  simp only [chain_Pick.l0]
  rw [if_pos (by omega), if_pos (by omega), if_pos (by omega), rdL_at' hp, ew, cover_is k o s (by omega)]
  simp only [Option.bind_some, pickS]
  by_cases h : (coverS o s).2 = true
  ·rw [if_pos h, if_pos h]
  ·rw [if_neg h, if_neg h, pick_loop s os hn B hB rest (pre ++ [o]) k hp' (by omega)]
   simp
end Go.Proofs.YtcmllllbmgcnlaaGreat.Ch
end
