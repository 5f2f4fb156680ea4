/- Own texts, joined and cut to what the claim stands on: RlFinds, RlFinds2. -/
import Derived.Deep.RegionHeld3
import Derived.Test.YtcmllllbmgcnlaaGreatQ39
section
namespace Go.Proofs.YtcmllllbmgcnlaaGreat.Rl
open Go.RowKit Go.Deep Go.Lib Go.Shelf Go.Proofs.YtcmllllbmgcnlaaGreat.G Go.Proofs.YtcmllllbmgcnlaaGreat.Tup Go.Proofs.YtcmllllbmgcnlaaGreatW.PrintWords Go.Proofs.YtcmllllbmgcnlaaGreatW.PrintLast Go.Proofs.YtcmllllbmgcnlaaGreatW.PrintMore
open Go.Proofs.YtcmllllbmgcnlaaGreat.Ch (rwrongS pickS pickS_some)
set_option linter.unusedVariables false
set_option linter.unusedSimpArgs false
theorem kr_one {W : World} {h : Nat} {x : Row} {Ai : Option Addr} {ci : Nat} (h2 : W.heap[h]? = some (.cells #[.slice Ai x.1.length ci, .int .i64 x.2.1, .int .i64 x.2.2] 61 (0, 0))) (hs : Sl W Ai ci x.1) : Kd.C KR W (some ⟨h, 0, none⟩) 1 [x] := by
  refine ⟨rfl, by decide, fun _ => ⟨_, rfl, fun j p hj => ?_⟩⟩
  obtain ⟨hj1, rfl⟩ := List.getElem?_eq_some_iff.1 hj
  obtain rfl : j = 0 := by simpa using hj1
  refine ⟨[.slice Ai x.1.length ci, .int .i64 x.2.1, .int .i64 x.2.2], rfl, ?_, fun t u ht => ?_⟩
  · exact ⟨[.slice Ai x.1.length ci], [.int .i64 x.2.1, .int .i64 x.2.2], rfl, ⟨Ai, ci, rfl, hs.2, hs.1⟩, ⟨[.int .i64 x.2.1], [.int .i64 x.2.2], rfl, rfl, rfl⟩⟩
  · rw [Addr.add_lit, Nat.zero_add, Tup.cell_of_heap h2]
    have ht3 : t < 3 := (List.getElem?_eq_some_iff.1 ht).1
    rw [← ht]
    simp
theorem zeros_sl {W : World} {n : Nat} (hn : n ≤ 8) : Sl (W.alloc (.cells (madeCells #[.int .i64 0] n) 3)) (some ⟨W.heap.size, 0, none⟩) n (List.replicate n 0) := by
  have e : (madeCells #[Value.int .i64 0] n).toList = (List.replicate n 0).map (Value.int .i64) := by
    rw [List.map_replicate]
    simp [madeCells, Nat.mod_one, List.map_const']
  exact ⟨Kd.F_now (sl_heap (l := List.replicate n 0) (heap_alloc_new W (.cells (madeCells #[.int .i64 0] n) 3)) e (by simp; omega)), by simp⟩
theorem kr_oneN {W : World} {h n : Nat} {t : Tp} {a b : Int} {Ai : Option Addr} {ci : Nat} (hn : t.length = n) (h2 : W.heap[h]? = some (.cells #[.slice Ai n ci, .int .i64 a, .int .i64 b] 61 (0, 0))) (hs : Sl W Ai ci t) : Kd.C KR W (some ⟨h, 0, none⟩) 1 [(t, (a, b))] := by
  subst hn
  exact kr_one h2 hs
theorem find_rowsN {ok : Nat → Prop} {w : World} {br wd : Nat} {os : List Tp} {R : List Row} {m : Nat} {bss : List Nat} (h : RelAt ok w br wd os R m bss) (cols : Int) (A : Option Addr) (c n : Nat) (t : Tp) (hn : t.length = n) (st : Sl w A c t) (hz : t.length * 8 ≤ 140737488351232) :
    Calls Tryz.prog 22 #[.pointer (some ⟨br, 0, none⟩), .int .i64 cols, .slice A n c] w (FindRows ok w (findL wd R cols t)) := by
  subst hn
  exact find_rows h cols A c t st hz
theorem same7N (W : World) (A : Option Addr) (c n : Nat) (xs : List Row) (B : Option Addr) (d m : Nat) (ys : List Row) (hxn : xs.length = n) (hym : ys.length = m) (h1 : Kd.C KR W A n xs) (h2 : Kd.C KR W B m ys) (hn : n ≤ 1000000) (hx : ∀ x ∈ xs, x.1.length ≤ 1000000) (he : xs = ys) :
    Calls Tryz.prog 23 #[.slice A n c, .slice B m d] W fun e w' => e = .returned (.bool true) ∧ Below W.heap.size W w' := by
  subst hxn hym
  have h := same7_calls W A c xs B d ys h1 h2 hn hx
  rw [decide_eq_true he] at h
  exact h
def RowsN (w : World) (ys : List Row) (n : Nat) (e : Ending) (w' : World) : Prop := ∃ A c, e = .returned (.tuple #[.slice A n c, .bool true]) ∧ n ≤ c ∧ Kd.F KR w' (fun k => w.heap.size ≤ k) A n ys ∧ Below w.heap.size w w'
theorem rowsN {w : World} {ys : List Row} {n : Nat} (hn : ys.length = n) {e : Ending} {w' : World} (h : RowsR w ys e w') : RowsN w ys n e w' := by subst hn; exact h
theorem range3 (a p : Int) : (0 ≤ a ∧ a < p) ∨ (0 ≤ a ∧ ¬ a < p) ∨ ¬ 0 ≤ a := by omega
theorem MdI.rowsAll {W w : World} {br wd m : Nat} {bss : List Nat} {os : List Tp} {ok : Nat → Prop} {R : List Row} (h : MdI W br wd m bss os ok R w) (n : Nat) (hn : R.length = n) :
    Calls Tryz.prog 21 #[.func (.func 54) #[] #[.pointer (some ⟨w.heap.size, 0, none⟩)]] (w.alloc (.cells #[.pointer (some ⟨br, 0, none⟩)] 24)) (RowsN (w.alloc (.cells #[.pointer (some ⟨br, 0, none⟩)] 24)) R n) :=
  (rows_calls _ _ _ rall_enters R (fun x hx => h.rel.hR.nt x hx) h.rel.hR.le (rall_seq (h.rel.below (below_alloc (Below.refl _ _) _)) w.heap.size ((Tup.cell_of_heap (heap_alloc_new _ _) 0).trans rfl))).mono fun e w' hp => rowsN hn hp
set_option maxHeartbeats 16000000 in
set_option maxRecDepth 100000 in
theorem finds_main (W : World) (wd : Nat) (h8 : wd ≤ 8) (A2 : Option Addr) (c2 : Nat) (ls : List Tp) (hls : Kd.C KT W A2 ls.length ls) (hlz : ∀ t ∈ ls, t.length * 8 ≤ 140737488351232) (hlc : ls.length ≤ c2) (cols : Int) (hl : ls.length ≤ 200) :
    Calls Tryz.prog 7 #[.int .i64 (wd : Int), .slice A2 ls.length c2, .int .i64 cols] W fun e w' => e = .returned (.bool true) ∧ Below W.heap.size W w' := by
  have sn : Sl W none 0 [] := ⟨Kd.C_nil _ _, Nat.le_refl _⟩
  have HN := Aside0.mk (rnew_yes W wd none 0 [] sn (by rw [rwrong_none, if_pos h8]))
  have HS := Aside0.mk (And.intro hls (And.intro hlz hlc))
  obtain ⟨n, hn⟩ : ∃ n, n = ls.length := ⟨_, rfl⟩
  have HNE := Aside0.mk hn
  rw [← hn] at hl ⊢
  have g1 : decide ((n : Int) > 200) = false := decide_eq_false (by omega)
  have g2 : ¬ (n : Int) > 200 := by omega
  clear hls hlz hlc hn sn
  go_enter Tryz.func7, Tryz.ntmps7
  go_wp2_with (first
    | (go_at_call 11; go_loud (refine HN.out.mono ?_); clear HN; rintro e w1 hm; obtain ⟨br, os, m, bss, rfl, ok, hA⟩ := made_i hm; have HA1 := Aside0.mk hA; clear hm hA)
    | (go_at_call 12; refine (alive_calls _).mono ?_; rintro e w5 ⟨rfl, hb5⟩; have HA5 := Aside0.mk (HA1.out.below hb5); clear hb5))
  go_loopg [41] n (fun gk v41 wr => ∃ (i : Nat) (R : List Row), v41 = .int .i64 (i : Int) ∧ Aside0 (i + gk = n) ∧ Aside0 (∃ ok, MdI W br wd m bss os ok R wr))
  case atStart => exact ⟨0, [], rfl, ⟨by omega⟩, ⟨_, HA5.out⟩⟩
  case round =>
    obtain ⟨i, R, rfl, HI, HD⟩ := hrel
    clear HA1 HA5
    by_cases hi : i < n
    · have hii : (i : Int) < (n : Int) := by omega
      have hid : decide (i < n) = true := decide_eq_true hi
      obtain ⟨ad, At, ct, rfl, hcell, hsl⟩ := tup_at HS.out.1 i (by rw [← HNE.out]; exact hi)
      obtain ⟨t, htt⟩ : ∃ t, t = ls[i]'(by rw [← HNE.out]; exact hi) := ⟨_, rfl⟩
      rw [← htt] at hcell hsl
      obtain ⟨okr, hD⟩ := HD.out
      have hcr := pw_cell_below hD.b hcell
      obtain ⟨x, hx⟩ : ∃ x, x = (noteF i 0).1.1 := ⟨_, rfl⟩
      obtain ⟨y, hy⟩ : ∃ y, y = (noteF i 0).1.2 := ⟨_, rfl⟩
      have HNt := Aside0.mk (fun w => lnote_calls w i 0)
      rw [← hx, ← hy] at HNt
      have HP1 := Aside0.mk (hD.put_calls x y hsl)
      obtain ⟨C, hC⟩ : ∃ C, C = putC wd R t x y := ⟨_, rfl⟩
      rw [← hC] at HP1
      clear hx hy hcell hsl htt hC hD
      obtain ⟨R1, qa, qz⟩ := C
      go_wp2_with (first
        | (go_at_call 20; refine (HNt.out _).mono ?_; rintro e w1 ⟨rfl, hw1⟩; subst hw1)
        | (go_at_call 13; (with_reducible refine HP1.out.mono ?_); clear HP1; rintro e w6 ⟨rfl, ok6, hd6⟩; have HD6 := Aside0.mk hd6; clear hd6))
      obtain ⟨k2, hk2⟩ : ∃ k2, k2 = gk - 1 := ⟨_, rfl⟩
      go_roundg k2
      case measure => have := HI.out; omega
      case rel => exact ⟨i + 1, R1, by go_num, ⟨by have := HI.out; omega⟩, ⟨_, HD6.out⟩⟩
    · have hii : ¬ (i : Int) < (n : Int) := by omega
      have hid : decide (i < n) = false := decide_eq_false hi
      obtain ⟨okr, hD⟩ := HD.out
      obtain ⟨rn, hrn⟩ : ∃ rn, R.length = rn := ⟨_, rfl⟩
      have hle := hD.rel.hR.le
      rw [hrn] at hle
      have HRA := Aside0.mk (hD.rowsAll rn hrn)
      have HLN := Aside0.mk (fun (w : World) (h : MdI W br wd m bss os okr R w) => rlen_calls h.rel)
      rw [hrn] at HLN
      have HDr := Aside0.mk hD
      have HRN := Aside0.mk hrn
      have hmk := run_make_row' (P := Tryz.prog) 23 3 (.int .i64 0) 8 Tryz.underlying23 info3 rfl .i64 .i64 wd (by omega) (by omega)
      clear HI HD hD hrn
      go_wp2_with (first
        | (go_at_call 25; refine (rall_calls _ _ ⟨_, rfl⟩).mono ?_; rintro e w3 ⟨rfl, hw3⟩; subst hw3)
        | (go_at_call 21; (with_reducible refine HRA.out.mono ?_); clear HRA; rintro e w4 ⟨A4, c4, rfl, hc4, hF4, hb4⟩; have HD4 := Aside0.mk (HDr.out.below (below_then (below_alloc (Below.refl _ _) _) (by simp) hb4)); have HF4 := Aside0.mk hF4; have HZ4 := Aside0.mk (fun (w : World) (hb : Below w4.heap.size w4 w) (A : Option Addr) (c : Nat) (hs : Sl w A c (List.replicate wd 0)) => find_rowsN (HD4.out.below hb).rel 0 A c wd (List.replicate wd 0) (by simp) hs (by simp; omega)); rw [findL_zero wd R _ (by simp)] at HZ4; clear hF4 hb4)
        | (go_at_call 15; refine (HLN.out _ HD4.out).mono ?_; rintro e w5 ⟨rfl, rfl⟩)
        | (go_at_call 22; (with_reducible refine (HZ4.out _ ((Below.refl _ _).alloc (Nat.le_refl _) _) _ _ (zeros_sl h8)).mono ?_); clear HZ4; rintro e w6 ⟨q1, q2, q3, rfl, hb6, HR6⟩; have HB6 := Aside0.mk (below_then (below_alloc (Below.refl _ _) _) (by simp) hb6); clear hb6)
        | (go_at_call 21; (with_reducible refine (HR6.out.mono fun e w' hp => rowsN HRN.out hp).mono ?_); clear HR6; rintro e w7 ⟨A7, c7, rfl, hc7, hF7, hb7⟩; have HB7 := Aside0.mk (below_then HB6.out HB6.out.size hb7); have HSm := Aside0.mk (same7N w7 A7 c7 rn R A4 c4 rn R HRN.out HRN.out (Kd.F_now hF7) (Kd.F_now (Kd.F_below HF4.out HB7.out)) (by omega) (fun x hx => by have := HD4.out.rel.hR.wd x hx; omega) rfl); clear hF7 hb7)
        | (go_at_call 23; (with_reducible refine HSm.out.mono ?_); clear HSm; rintro e w8 ⟨rfl, hb8⟩; have HB8 := Aside0.mk (below_then HB7.out HB7.out.size hb8); clear hb8))
      clear HDr HLN hmk
      go_loopg [85] rn (fun gk v85 wq => ∃ (j : Nat), v85 = .int .i64 (j : Int) ∧ Aside0 (j + gk = rn) ∧ Aside0 (Since w4 wq))
      case atStart => exact ⟨0, rfl, ⟨by omega⟩, ⟨⟨HB8.out⟩⟩⟩
      case round =>
        obtain ⟨j, rfl, HJ, HSQ⟩ := hrel
        by_cases hj : j < rn
        · have hji : (j : Int) < (rn : Int) := by omega
          have hjd : decide (j < rn) = true := decide_eq_true hj
          obtain ⟨ad, Ai, ci, rfl, e0, e1, e2, hsl⟩ := kr_at (Kd.F_now HF4.out) j (by rw [HRN.out]; exact hj)
          obtain ⟨x, hx⟩ : ∃ x, x = R[j]'(by rw [HRN.out]; exact hj) := ⟨_, rfl⟩
          rw [← hx] at e0 e1 e2 hsl
          have hxm : x ∈ R := by rw [hx]; exact List.getElem_mem _
          have hxl : x.1.length = wd := HD4.out.rel.hR.key (mem_keys hxm)
          rw [hxl] at e0
          have f0 := pw_cell_below HSQ.out.b e0
          have f1 := pw_cell_below HSQ.out.b e1
          have f2 := pw_cell_below HSQ.out.b e2
          have HX := Aside0.mk (And.intro hxm (And.intro hxl hsl))
          obtain ⟨tx, n1, n2⟩ := x
          dsimp only at e0 e1 e2 f0 f1 f2
          clear e0 e1 e2 hsl hxl hxm hx
          go_wp2_with fail
          obtain ⟨wx, hwx⟩ : ∃ w, w = wr.alloc (.cells #[.slice Ai wd ci, .int .i64 n1, .int .i64 n2] 61) := ⟨_, rfl⟩
          have hx3 : wx.heap[wr.heap.size]? = some (.cells #[.slice Ai wd ci, .int .i64 n1, .int .i64 n2] 61 (0, 0)) := by rw [hwx]; exact heap_alloc_new _ _
          have hsx : Since w4 wx := by rw [hwx]; exact HSQ.out.alloc _
          rw [← hwx]
          obtain ⟨B, hB⟩ : ∃ B, B = wr.heap.size := ⟨_, rfl⟩
          rw [← hB] at hx3 ⊢
          clear hB
          have HKP := Aside0.mk (fun (w : World) (hw : Since wx w) => show (w.cell? ⟨B, 0, none⟩ = some (.slice Ai wd ci) ∧ w.cell? ⟨B, 1, none⟩ = some (.int .i64 n1) ∧ w.cell? ⟨B, 2, none⟩ = some (.int .i64 n2)) ∧ Since wx w from
            ⟨⟨pw_cell_below hw.b ((Tup.cell_of_heap hx3 0).trans rfl), pw_cell_below hw.b ((Tup.cell_of_heap hx3 1).trans rfl), pw_cell_below hw.b ((Tup.cell_of_heap hx3 2).trans rfl)⟩, hw⟩)
          have HSX := Aside0.mk hsx
          have HFU := Aside0.mk (fun (w : World) (hw : Since wx w) => find_rowsN (HD4.out.below (hsx.trans hw).b).rel ((2 : Int) ^ wd - 1) Ai ci wd tx HX.out.2.1 ((hsx.trans hw).sl HX.out.2.2) (by have : tx.length = wd := HX.out.2.1; omega))
          rw [findL_full HD4.out.rel.hR HX.out.1, ← pow_wrap2 h8] at HFU
          obtain ⟨ys, hys⟩ : ∃ ys, ys = findL wd R cols tx := ⟨_, rfl⟩
          obtain ⟨yn, hyn⟩ : ∃ yn, ys.length = yn := ⟨_, rfl⟩
          have HFC := Aside0.mk (fun (w : World) (hw : Since wx w) => find_rowsN (HD4.out.below (hsx.trans hw).b).rel cols Ai ci wd tx HX.out.2.1 ((hsx.trans hw).sl HX.out.2.2) (by have : tx.length = wd := HX.out.2.1; omega))
          rw [← hys] at HFC
          have HYS := Aside0.mk hys
          have HYN := Aside0.mk hyn
          have hyb : yn ≤ 1024 := by rw [← hyn, hys]; have := findL_len wd R cols tx; have := HD4.out.rel.hR.le; omega
          have hpos := Aside0.mk (fun h : 0 ≤ cols ∧ cols < 2 ^ wd => by rw [← hyn, hys]; exact findL_some HD4.out.rel.hR HX.out.1 h : (0 ≤ cols ∧ cols < 2 ^ wd) → 0 < yn)
          clear hys hyn hwx hx3 hsx f0 f1 f2
          have hs0 : Since wx wx := Since.refl _
          obtain ⟨⟨q0, q1, q2⟩, _⟩ := HKP.out wx hs0
          go_region_held3 (fun w' => (w'.cell? ⟨B, 0, none⟩ = some (.slice Ai wd ci) ∧ w'.cell? ⟨B, 1, none⟩ = some (.int .i64 n1) ∧ w'.cell? ⟨B, 2, none⟩ = some (.int .i64 n2)) ∧ Since wx w')
            (first | exact HKP.out _ hs0 | exact HKP.out _ hs0.drew | (go_split_ands; first | exact HKP.out _ (by assumption) | exact HKP.out _ (Since.trans (by assumption) (by assumption)) | exact HKP.out _ (Since.step (by assumption) (by assumption))))
            (first
            | (go_at_call 22; go_loud (((with_reducible refine (HFU.out _ ?s1).mono ?_)); (case s1 => (go_split_ands; first | assumption | exact Since.trans (by assumption) (by assumption))); rintro e wA ⟨p1, p2, p3, rfl, hbA, HRA⟩))
            | (go_at_call 21; go_loud (((with_reducible refine (HRA.out).mono ?_)); rintro e wB ⟨A9, c9, rfl, hc9, hF9, hbB⟩)))
          have HSB := Aside0.mk (show Since wx wB from by go_split_ands; first | assumption | exact Since.step (by assumption) hbB | exact Since.step (Since.step (by assumption) hbA) hbB)
          have HF9 := Aside0.mk hF9
          obtain ⟨⟨r0, r1, r2⟩, _⟩ := HKP.out wB HSB.out
          clear hF9 hbA hbB HRA
          have HSM := Aside0.mk (same7N (wB.alloc (.cells #[.slice Ai wd ci, .int .i64 n1, .int .i64 n2] 61)) A9 c9 1 [(tx, n1, n2)] (some ⟨wB.heap.size, 0, none⟩) 1 1 [(tx, n1, n2)] rfl rfl (Kd.F_now (Kd.F_below HF9.out (below_alloc (Below.refl _ _) _))) (kr_oneN HX.out.2.1 (heap_alloc_new _ _) (((HSX.out.trans HSB.out).alloc _).sl HX.out.2.2)) (by decide) (fun x hx => by rw [List.mem_singleton] at hx; subst hx; have : tx.length = wd := HX.out.2.1; show tx.length ≤ _; omega) rfl)
          have hsh : wrap64 ((2 : Int) ^ wd) = (2 : Int) ^ wd := pow_wrap h8
          rcases range3 cols ((2 : Int) ^ wd) with ⟨a1, a2⟩ | ⟨a1, a2⟩ | a1
          · have b1 : decide (cols ≥ 0) = true := decide_eq_true a1
            have b2 : decide (cols < (2 : Int) ^ wd) = true := decide_eq_true a2
            have b3 : ((yn : Int) == 0) = false := by have := hpos.out ⟨a1, a2⟩; simp; omega
            clear hpos
            go_wp2_with (first
              | (go_at_call 23; (with_reducible refine HSM.out.mono ?_); clear HSM; rintro e wC ⟨rfl, hbC⟩; have HSC := Aside0.mk ((HSB.out.alloc _).step hbC); obtain ⟨⟨s0, s1, s2⟩, _⟩ := HKP.out wC HSC.out; have HFC1 := Aside0.mk (HFC.out wC HSC.out); clear hbC)
              | (go_at_call 22; (with_reducible refine HFC1.out.mono ?_); clear HFC1; rintro e wD ⟨p4, p5, p6, rfl, hbD, HRD⟩; have HSD := Aside0.mk (HSC.out.step hbD); clear hbD)
              | (go_at_call 21; (with_reducible refine (HRD.out.mono fun e w' hp => rowsN HYN.out hp).mono ?_); clear HRD; rintro e wE ⟨A8, c8, rfl, hc8, hF8, hbE⟩; have HSE := Aside0.mk (HSD.out.step hbE); have HF8 := Aside0.mk hF8; clear hF8 hbE))
            clear hsh
            go_loopg [137] yn (fun gk v137 wz => ∃ (k : Nat), v137 = .int .i64 (k : Int) ∧ Aside0 (k + gk = yn) ∧ Aside0 (Since wE wz))
            case atStart => exact ⟨0, rfl, ⟨by omega⟩, ⟨Since.refl _⟩⟩
            case round =>
              obtain ⟨k, rfl, HK, HSZ⟩ := hrel
              by_cases hk : k < yn
              · have hki : (k : Int) < (yn : Int) := by omega
                have hkd : decide (k < yn) = true := decide_eq_true hk
                obtain ⟨ad2, Bi, di, rfl, y0, y1, y2, ysl⟩ := kr_at (Kd.F_now HF8.out) k (by rw [HYN.out]; exact hk)
                obtain ⟨y, hy⟩ : ∃ y, y = ys[k]'(by rw [HYN.out]; exact hk) := ⟨_, rfl⟩
                rw [← hy] at y0 y1 y2 ysl
                have hym : y ∈ findL wd R cols tx := by rw [← HYS.out, hy]; exact List.getElem_mem _
                obtain ⟨hcin, hagr⟩ := findL_agree hym
                have hyl : y.1.length = wd := HD4.out.rel.hR.key (mem_keys (findL_sub hym))
                rw [hyl] at y0
                have z0 := pw_cell_below HSZ.out.b y0
                have z1 := pw_cell_below HSZ.out.b y1
                have z2 := pw_cell_below HSZ.out.b y2
                have HY := Aside0.mk (And.intro hyl (And.intro ysl (And.intro hcin.1 hagr)))
                obtain ⟨ty, m1, m2⟩ := y
                dsimp only at z0 z1 z2
                clear y0 y1 y2 ysl hym hcin hagr hyl hy
                go_wp2_with fail
                obtain ⟨wy, hwy⟩ : ∃ w, w = wr.alloc (.cells #[.slice Bi wd di, .int .i64 m1, .int .i64 m2] 61) := ⟨_, rfl⟩
                have hy3 : wy.heap[wr.heap.size]? = some (.cells #[.slice Bi wd di, .int .i64 m1, .int .i64 m2] 61 (0, 0)) := by rw [hwy]; exact heap_alloc_new _ _
                have hsy : Since wE wy := by rw [hwy]; exact HSZ.out.alloc _
                rw [← hwy]
                obtain ⟨D, hD⟩ : ∃ D, D = wr.heap.size := ⟨_, rfl⟩
                rw [← hD] at hy3 ⊢
                clear hD
                have HKY := Aside0.mk (fun (w : World) (hw : Since wy w) => show w.cell? ⟨D, 0, none⟩ = some (.slice Bi wd di) ∧ w.cell? ⟨B, 0, none⟩ = some (.slice Ai wd ci) ∧ Sl w Ai ci tx ∧ Sl w Bi di ty from
                  ⟨pw_cell_below hw.b ((Tup.cell_of_heap hy3 0).trans rfl), (HKP.out w (HSE.out.trans (hsy.trans hw))).1.1, (HSX.out.trans (HSE.out.trans (hsy.trans hw))).sl HX.out.2.2, (hsy.trans hw).sl HY.out.2.1⟩)
                have HSY := Aside0.mk hsy
                clear hwy hy3 hsy z0 z1 z2
                go_loopg [142] wd (fun gk v142 wv => ∃ (q : Nat), v142 = .int .i64 (q : Int) ∧ Aside0 (q + gk = wd) ∧ Aside0 (Since wy wv))
                case atStart => exact ⟨0, rfl, ⟨by omega⟩, ⟨Since.refl _⟩⟩
                case round =>
                  obtain ⟨q, rfl, HQ, HSV⟩ := hrel
                  by_cases hq : q < wd
                  · have hqi : (q : Int) < (wd : Int) := by omega
                    have hqd : decide (q < wd) = true := decide_eq_true hq
                    obtain ⟨d0, d1, sx, sy⟩ := HKY.out wr HSV.out
                    obtain ⟨adx, rfl, cx⟩ := sl_at sx (q : Int) (by omega) (by have : tx.length = wd := HX.out.2.1; omega)
                    obtain ⟨ady, rfl, cy⟩ := sl_at sy (q : Int) (by omega) (by have : ty.length = wd := HY.out.1; omega)
                    rw [Int.toNat_natCast] at cx cy
                    have hs := shr_bit cols HY.out.2.2.1 q
                    have hwq : (0 : Int) ≤ (q : Int) ∧ (q : Int) < (wd : Int) := by omega
                    clear sx sy
                    cases hbt : cols.toNat.testBit q
                    · rw [hbt] at hs
                      obtain ⟨a, ha⟩ : ∃ a, a = rd tx (q : Int) := ⟨_, rfl⟩
                      obtain ⟨b, hb⟩ : ∃ b, b = rd ty (q : Int) := ⟨_, rfl⟩
                      rw [← ha] at cx
                      rw [← hb] at cy
                      clear ha hb
                      go_wp2_with fail
                      go_region
                      go_wp2_with fail
                      obtain ⟨k2, hk2⟩ : ∃ k2, k2 = wd - q - 1 := ⟨_, rfl⟩
                      go_roundg k2
                      case measure => have := HQ.out; omega
                      case rel => exact ⟨q + 1, by go_num, ⟨by have := HQ.out; omega⟩, ⟨HSV.out.drew⟩⟩
                    · rw [hbt] at hs
                      rw [HY.out.2.2.2 q hq hbt] at cy
                      obtain ⟨a, ha⟩ : ∃ a, a = rd tx (q : Int) := ⟨_, rfl⟩
                      rw [← ha] at cx cy
                      have hne : (a != a) = false := by simp
                      clear ha
                      go_wp2_with fail
                      go_region
                      go_wp2_with fail
                      obtain ⟨k2, hk2⟩ : ∃ k2, k2 = wd - q - 1 := ⟨_, rfl⟩
                      go_roundg k2
                      case measure => have := HQ.out; omega
                      case rel => exact ⟨q + 1, by go_num, ⟨by have := HQ.out; omega⟩, ⟨HSV.out.drew⟩⟩
                  · have hqi : ¬ (q : Int) < (wd : Int) := by omega
                    have hqd : decide (q < wd) = false := decide_eq_false hq
                    go_wp2_with fail
                    obtain ⟨k2, hk2⟩ : ∃ k2, k2 = yn - k - 1 := ⟨_, rfl⟩
                    go_roundg k2
                    case measure => have := HK.out; omega
                    case rel => exact ⟨k + 1, by go_num, ⟨by have := HK.out; omega⟩, ⟨HSY.out.trans HSV.out⟩⟩
              · have hki : ¬ (k : Int) < (yn : Int) := by omega
                have hkd : decide (k < yn) = false := decide_eq_false hk
                go_wp2_with fail
                obtain ⟨k2, hk2⟩ : ∃ k2, k2 = rn - j - 1 := ⟨_, rfl⟩
                go_roundg k2
                case measure => have := HJ.out; omega
                case rel => exact ⟨j + 1, by go_num, ⟨by have := HJ.out; omega⟩, ⟨HSX.out.trans (HSE.out.trans HSZ.out)⟩⟩
          · have b1 : decide (cols ≥ 0) = true := decide_eq_true a1
            have b2 : decide (cols < (2 : Int) ^ wd) = false := decide_eq_false a2
            clear hpos
            go_wp2_with (first
              | (go_at_call 23; (with_reducible refine HSM.out.mono ?_); clear HSM; rintro e wC ⟨rfl, hbC⟩; have HSC := Aside0.mk ((HSB.out.alloc _).step hbC); obtain ⟨⟨s0, s1, s2⟩, _⟩ := HKP.out wC HSC.out; have HFC1 := Aside0.mk (HFC.out wC HSC.out); clear hbC)
              | (go_at_call 22; (with_reducible refine HFC1.out.mono ?_); clear HFC1; rintro e wD ⟨p4, p5, p6, rfl, hbD, HRD⟩; have HSD := Aside0.mk (HSC.out.step hbD); clear hbD)
              | (go_at_call 21; (with_reducible refine (HRD.out.mono fun e w' hp => rowsN HYN.out hp).mono ?_); clear HRD; rintro e wE ⟨A8, c8, rfl, hc8, hF8, hbE⟩; have HSE := Aside0.mk (HSD.out.step hbE); have HF8 := Aside0.mk hF8; clear hF8 hbE))
            clear hsh
            go_loopg [137] yn (fun gk v137 wz => ∃ (k : Nat), v137 = .int .i64 (k : Int) ∧ Aside0 (k + gk = yn) ∧ Aside0 (Since wE wz))
            case atStart => exact ⟨0, rfl, ⟨by omega⟩, ⟨Since.refl _⟩⟩
            case round =>
              obtain ⟨k, rfl, HK, HSZ⟩ := hrel
              by_cases hk : k < yn
              · have hki : (k : Int) < (yn : Int) := by omega
                have hkd : decide (k < yn) = true := decide_eq_true hk
                obtain ⟨ad2, Bi, di, rfl, y0, y1, y2, ysl⟩ := kr_at (Kd.F_now HF8.out) k (by rw [HYN.out]; exact hk)
                obtain ⟨y, hy⟩ : ∃ y, y = ys[k]'(by rw [HYN.out]; exact hk) := ⟨_, rfl⟩
                rw [← hy] at y0 y1 y2 ysl
                have hym : y ∈ findL wd R cols tx := by rw [← HYS.out, hy]; exact List.getElem_mem _
                obtain ⟨hcin, hagr⟩ := findL_agree hym
                have hyl : y.1.length = wd := HD4.out.rel.hR.key (mem_keys (findL_sub hym))
                rw [hyl] at y0
                have z0 := pw_cell_below HSZ.out.b y0
                have z1 := pw_cell_below HSZ.out.b y1
                have z2 := pw_cell_below HSZ.out.b y2
                have HY := Aside0.mk (And.intro hyl (And.intro ysl (And.intro hcin.1 hagr)))
                obtain ⟨ty, m1, m2⟩ := y
                dsimp only at z0 z1 z2
                clear y0 y1 y2 ysl hym hcin hagr hyl hy
                go_wp2_with fail
                obtain ⟨wy, hwy⟩ : ∃ w, w = wr.alloc (.cells #[.slice Bi wd di, .int .i64 m1, .int .i64 m2] 61) := ⟨_, rfl⟩
                have hy3 : wy.heap[wr.heap.size]? = some (.cells #[.slice Bi wd di, .int .i64 m1, .int .i64 m2] 61 (0, 0)) := by rw [hwy]; exact heap_alloc_new _ _
                have hsy : Since wE wy := by rw [hwy]; exact HSZ.out.alloc _
                rw [← hwy]
                obtain ⟨D, hD⟩ : ∃ D, D = wr.heap.size := ⟨_, rfl⟩
                rw [← hD] at hy3 ⊢
                clear hD
                have HKY := Aside0.mk (fun (w : World) (hw : Since wy w) => show w.cell? ⟨D, 0, none⟩ = some (.slice Bi wd di) ∧ w.cell? ⟨B, 0, none⟩ = some (.slice Ai wd ci) ∧ Sl w Ai ci tx ∧ Sl w Bi di ty from
                  ⟨pw_cell_below hw.b ((Tup.cell_of_heap hy3 0).trans rfl), (HKP.out w (HSE.out.trans (hsy.trans hw))).1.1, (HSX.out.trans (HSE.out.trans (hsy.trans hw))).sl HX.out.2.2, (hsy.trans hw).sl HY.out.2.1⟩)
                have HSY := Aside0.mk hsy
                clear hwy hy3 hsy z0 z1 z2
                go_loopg [142] wd (fun gk v142 wv => ∃ (q : Nat), v142 = .int .i64 (q : Int) ∧ Aside0 (q + gk = wd) ∧ Aside0 (Since wy wv))
                case atStart => exact ⟨0, rfl, ⟨by omega⟩, ⟨Since.refl _⟩⟩
                case round =>
                  obtain ⟨q, rfl, HQ, HSV⟩ := hrel
                  by_cases hq : q < wd
                  · have hqi : (q : Int) < (wd : Int) := by omega
                    have hqd : decide (q < wd) = true := decide_eq_true hq
                    obtain ⟨d0, d1, sx, sy⟩ := HKY.out wr HSV.out
                    obtain ⟨adx, rfl, cx⟩ := sl_at sx (q : Int) (by omega) (by have : tx.length = wd := HX.out.2.1; omega)
                    obtain ⟨ady, rfl, cy⟩ := sl_at sy (q : Int) (by omega) (by have : ty.length = wd := HY.out.1; omega)
                    rw [Int.toNat_natCast] at cx cy
                    have hs := shr_bit cols HY.out.2.2.1 q
                    have hwq : (0 : Int) ≤ (q : Int) ∧ (q : Int) < (wd : Int) := by omega
                    clear sx sy
                    cases hbt : cols.toNat.testBit q
                    · rw [hbt] at hs
                      obtain ⟨a, ha⟩ : ∃ a, a = rd tx (q : Int) := ⟨_, rfl⟩
                      obtain ⟨b, hb⟩ : ∃ b, b = rd ty (q : Int) := ⟨_, rfl⟩
                      rw [← ha] at cx
                      rw [← hb] at cy
                      clear ha hb
                      go_wp2_with fail
                      go_region
                      go_wp2_with fail
                      obtain ⟨k2, hk2⟩ : ∃ k2, k2 = wd - q - 1 := ⟨_, rfl⟩
                      go_roundg k2
                      case measure => have := HQ.out; omega
                      case rel => exact ⟨q + 1, by go_num, ⟨by have := HQ.out; omega⟩, ⟨HSV.out.drew⟩⟩
                    · rw [hbt] at hs
                      rw [HY.out.2.2.2 q hq hbt] at cy
                      obtain ⟨a, ha⟩ : ∃ a, a = rd tx (q : Int) := ⟨_, rfl⟩
                      rw [← ha] at cx cy
                      have hne : (a != a) = false := by simp
                      clear ha
                      go_wp2_with fail
                      go_region
                      go_wp2_with fail
                      obtain ⟨k2, hk2⟩ : ∃ k2, k2 = wd - q - 1 := ⟨_, rfl⟩
                      go_roundg k2
                      case measure => have := HQ.out; omega
                      case rel => exact ⟨q + 1, by go_num, ⟨by have := HQ.out; omega⟩, ⟨HSV.out.drew⟩⟩
                  · have hqi : ¬ (q : Int) < (wd : Int) := by omega
                    have hqd : decide (q < wd) = false := decide_eq_false hq
                    go_wp2_with fail
                    obtain ⟨k2, hk2⟩ : ∃ k2, k2 = yn - k - 1 := ⟨_, rfl⟩
                    go_roundg k2
                    case measure => have := HK.out; omega
                    case rel => exact ⟨k + 1, by go_num, ⟨by have := HK.out; omega⟩, ⟨HSY.out.trans HSV.out⟩⟩
              · have hki : ¬ (k : Int) < (yn : Int) := by omega
                have hkd : decide (k < yn) = false := decide_eq_false hk
                go_wp2_with fail
                obtain ⟨k2, hk2⟩ : ∃ k2, k2 = rn - j - 1 := ⟨_, rfl⟩
                go_roundg k2
                case measure => have := HJ.out; omega
                case rel => exact ⟨j + 1, by go_num, ⟨by have := HJ.out; omega⟩, ⟨HSX.out.trans (HSE.out.trans HSZ.out)⟩⟩
          · have b1 : decide (cols ≥ 0) = false := decide_eq_false a1
            clear hpos
            go_wp2_with (first
              | (go_at_call 23; (with_reducible refine HSM.out.mono ?_); clear HSM; rintro e wC ⟨rfl, hbC⟩; have HSC := Aside0.mk ((HSB.out.alloc _).step hbC); obtain ⟨⟨s0, s1, s2⟩, _⟩ := HKP.out wC HSC.out; have HFC1 := Aside0.mk (HFC.out wC HSC.out); clear hbC)
              | (go_at_call 22; (with_reducible refine HFC1.out.mono ?_); clear HFC1; rintro e wD ⟨p4, p5, p6, rfl, hbD, HRD⟩; have HSD := Aside0.mk (HSC.out.step hbD); clear hbD)
              | (go_at_call 21; (with_reducible refine (HRD.out.mono fun e w' hp => rowsN HYN.out hp).mono ?_); clear HRD; rintro e wE ⟨A8, c8, rfl, hc8, hF8, hbE⟩; have HSE := Aside0.mk (HSD.out.step hbE); have HF8 := Aside0.mk hF8; clear hF8 hbE))
            clear hsh
            go_loopg [137] yn (fun gk v137 wz => ∃ (k : Nat), v137 = .int .i64 (k : Int) ∧ Aside0 (k + gk = yn) ∧ Aside0 (Since wE wz))
            case atStart => exact ⟨0, rfl, ⟨by omega⟩, ⟨Since.refl _⟩⟩
            case round =>
              obtain ⟨k, rfl, HK, HSZ⟩ := hrel
              by_cases hk : k < yn
              · have hki : (k : Int) < (yn : Int) := by omega
                have hkd : decide (k < yn) = true := decide_eq_true hk
                obtain ⟨ad2, Bi, di, rfl, y0, y1, y2, ysl⟩ := kr_at (Kd.F_now HF8.out) k (by rw [HYN.out]; exact hk)
                obtain ⟨y, hy⟩ : ∃ y, y = ys[k]'(by rw [HYN.out]; exact hk) := ⟨_, rfl⟩
                rw [← hy] at y0 y1 y2 ysl
                have hym : y ∈ findL wd R cols tx := by rw [← HYS.out, hy]; exact List.getElem_mem _
                obtain ⟨hcin, hagr⟩ := findL_agree hym
                have hyl : y.1.length = wd := HD4.out.rel.hR.key (mem_keys (findL_sub hym))
                rw [hyl] at y0
                have z0 := pw_cell_below HSZ.out.b y0
                have z1 := pw_cell_below HSZ.out.b y1
                have z2 := pw_cell_below HSZ.out.b y2
                have HY := Aside0.mk (And.intro hyl (And.intro ysl (And.intro hcin.1 hagr)))
                obtain ⟨ty, m1, m2⟩ := y
                dsimp only at z0 z1 z2
                clear y0 y1 y2 ysl hym hcin hagr hyl hy
                go_wp2_with fail
                obtain ⟨wy, hwy⟩ : ∃ w, w = wr.alloc (.cells #[.slice Bi wd di, .int .i64 m1, .int .i64 m2] 61) := ⟨_, rfl⟩
                have hy3 : wy.heap[wr.heap.size]? = some (.cells #[.slice Bi wd di, .int .i64 m1, .int .i64 m2] 61 (0, 0)) := by rw [hwy]; exact heap_alloc_new _ _
                have hsy : Since wE wy := by rw [hwy]; exact HSZ.out.alloc _
                rw [← hwy]
                obtain ⟨D, hD⟩ : ∃ D, D = wr.heap.size := ⟨_, rfl⟩
                rw [← hD] at hy3 ⊢
                clear hD
                have HKY := Aside0.mk (fun (w : World) (hw : Since wy w) => show w.cell? ⟨D, 0, none⟩ = some (.slice Bi wd di) ∧ w.cell? ⟨B, 0, none⟩ = some (.slice Ai wd ci) ∧ Sl w Ai ci tx ∧ Sl w Bi di ty from
                  ⟨pw_cell_below hw.b ((Tup.cell_of_heap hy3 0).trans rfl), (HKP.out w (HSE.out.trans (hsy.trans hw))).1.1, (HSX.out.trans (HSE.out.trans (hsy.trans hw))).sl HX.out.2.2, (hsy.trans hw).sl HY.out.2.1⟩)
                have HSY := Aside0.mk hsy
                clear hwy hy3 hsy z0 z1 z2
                go_loopg [142] wd (fun gk v142 wv => ∃ (q : Nat), v142 = .int .i64 (q : Int) ∧ Aside0 (q + gk = wd) ∧ Aside0 (Since wy wv))
                case atStart => exact ⟨0, rfl, ⟨by omega⟩, ⟨Since.refl _⟩⟩
                case round =>
                  obtain ⟨q, rfl, HQ, HSV⟩ := hrel
                  by_cases hq : q < wd
                  · have hqi : (q : Int) < (wd : Int) := by omega
                    have hqd : decide (q < wd) = true := decide_eq_true hq
                    obtain ⟨d0, d1, sx, sy⟩ := HKY.out wr HSV.out
                    obtain ⟨adx, rfl, cx⟩ := sl_at sx (q : Int) (by omega) (by have : tx.length = wd := HX.out.2.1; omega)
                    obtain ⟨ady, rfl, cy⟩ := sl_at sy (q : Int) (by omega) (by have : ty.length = wd := HY.out.1; omega)
                    rw [Int.toNat_natCast] at cx cy
                    have hs := shr_bit cols HY.out.2.2.1 q
                    have hwq : (0 : Int) ≤ (q : Int) ∧ (q : Int) < (wd : Int) := by omega
                    clear sx sy
                    cases hbt : cols.toNat.testBit q
                    · rw [hbt] at hs
                      obtain ⟨a, ha⟩ : ∃ a, a = rd tx (q : Int) := ⟨_, rfl⟩
                      obtain ⟨b, hb⟩ : ∃ b, b = rd ty (q : Int) := ⟨_, rfl⟩
                      rw [← ha] at cx
                      rw [← hb] at cy
                      clear ha hb
                      go_wp2_with fail
                      go_region
                      go_wp2_with fail
                      obtain ⟨k2, hk2⟩ : ∃ k2, k2 = wd - q - 1 := ⟨_, rfl⟩
                      go_roundg k2
                      case measure => have := HQ.out; omega
                      case rel => exact ⟨q + 1, by go_num, ⟨by have := HQ.out; omega⟩, ⟨HSV.out.drew⟩⟩
                    · rw [hbt] at hs
                      rw [HY.out.2.2.2 q hq hbt] at cy
                      obtain ⟨a, ha⟩ : ∃ a, a = rd tx (q : Int) := ⟨_, rfl⟩
                      rw [← ha] at cx cy
                      have hne : (a != a) = false := by simp
                      clear ha
                      go_wp2_with fail
                      go_region
                      go_wp2_with fail
                      obtain ⟨k2, hk2⟩ : ∃ k2, k2 = wd - q - 1 := ⟨_, rfl⟩
                      go_roundg k2
                      case measure => have := HQ.out; omega
                      case rel => exact ⟨q + 1, by go_num, ⟨by have := HQ.out; omega⟩, ⟨HSV.out.drew⟩⟩
                  · have hqi : ¬ (q : Int) < (wd : Int) := by omega
                    have hqd : decide (q < wd) = false := decide_eq_false hq
                    go_wp2_with fail
                    obtain ⟨k2, hk2⟩ : ∃ k2, k2 = yn - k - 1 := ⟨_, rfl⟩
                    go_roundg k2
                    case measure => have := HK.out; omega
                    case rel => exact ⟨k + 1, by go_num, ⟨by have := HK.out; omega⟩, ⟨HSY.out.trans HSV.out⟩⟩
              · have hki : ¬ (k : Int) < (yn : Int) := by omega
                have hkd : decide (k < yn) = false := decide_eq_false hk
                go_wp2_with fail
                obtain ⟨k2, hk2⟩ : ∃ k2, k2 = rn - j - 1 := ⟨_, rfl⟩
                go_roundg k2
                case measure => have := HJ.out; omega
                case rel => exact ⟨j + 1, by go_num, ⟨by have := HJ.out; omega⟩, ⟨HSX.out.trans (HSE.out.trans HSZ.out)⟩⟩
        · have hji : ¬ (j : Int) < (rn : Int) := by omega
          have hjd : decide (j < rn) = false := decide_eq_false hj
          go_wp2_with fail
          go_ret
          exact ⟨rfl, (HD4.out.below HSQ.out.b).b⟩
end Go.Proofs.YtcmllllbmgcnlaaGreat.Rl
end
section
namespace Go.Proofs.YtcmllllbmgcnlaaGreat.Rl
open Go.RowKit Go.Lib Go.Shelf Go.Proofs.YtcmllllbmgcnlaaGreat.G Go.Proofs.YtcmllllbmgcnlaaGreat.Tup Go.Proofs.YtcmllllbmgcnlaaGreatW Go.Proofs.YtcmllllbmgcnlaaGreatW.PrintWords Go.Proofs.YtcmllllbmgcnlaaGreatW.PrintLast Go.Proofs.YtcmllllbmgcnlaaGreatW.PrintMore
open Go.Proofs.YtcmllllbmgcnlaaGreat.Ch (rwrongS)
set_option linter.unusedVariables false
set_option linter.unusedSimpArgs false
set_option maxHeartbeats 8000000 in
set_option maxRecDepth 100000 in
theorem finds_else (W : World) (width : Int) (A2 : Option Addr) (n c2 : Nat) (cols : Int) (hno : ¬ (rwrongS width [] = 0 ∧ n ≤ 200)) :
    Calls Tryz.prog 7 #[.int .i64 width, .slice A2 n c2, .int .i64 cols] W fun e w' => e = .returned (.bool true) ∧ Below W.heap.size W w' := by
  have sn : Sl W none 0 [] := ⟨Kd.C_nil _ _, Nat.le_refl _⟩
  have HN0 := Aside0.mk (new_any W width none 0 [] sn)
  obtain ⟨z0, hz0⟩ : ∃ z, z = rwrongS width [] := ⟨_, rfl⟩
  rw [← hz0] at HN0 hno
  clear hz0 sn
  by_cases e0 : z0 = 0
  · subst e0
    have g1 : decide ((n : Int) > 200) = true := decide_eq_true (by omega)
    have g2 : (n : Int) > 200 := by omega
    clear hno
    go_enter Tryz.func7, Tryz.ntmps7
    go_wp2_with (first
      | (go_at_call 11; refine HN0.out.mono ?_; clear HN0; rintro e w1 ⟨a0, rfl, hb1⟩; have HB1 := Aside0.mk hb1; clear hb1)
      | (go_at_call 12; refine (alive_calls _).mono ?_; rintro e w5 ⟨rfl, hb5⟩; have HB5 := Aside0.mk (below_then HB1.out HB1.out.size hb5); clear hb5))
    go_ret
    exact ⟨rfl, HB5.out⟩
  · have y0 : (z0 != 0) = true := by simpa using e0
    clear hno e0
    go_enter Tryz.func7, Tryz.ntmps7
    go_wp2_with (first
      | (go_at_call 11; refine HN0.out.mono ?_; clear HN0; rintro e w1 ⟨a0, rfl, hb1⟩; have HB1 := Aside0.mk hb1; clear hb1)
      | (go_at_call 12; refine (alive_calls _).mono ?_; rintro e w5 ⟨rfl, hb5⟩; have HB5 := Aside0.mk (below_then HB1.out HB1.out.size hb5); clear hb5))
    go_ret
    exact ⟨rfl, HB5.out⟩
theorem width_of {width : Int} {l : List Int} (h : rwrongS width l = 0) : ∃ wd : Nat, width = wd ∧ wd ≤ 8 := by
  unfold Go.Proofs.YtcmllllbmgcnlaaGreat.Ch.rwrongS at h
  split at h
  · cases h
  · exact ⟨width.toNat, by omega, by omega⟩
theorem relFinds_calls {W : World} (width : Int) (hw : (Lit.int .i64 width).wf = true) (A2 : Option Addr) (c2 : Nat) (ls : List (List Int)) (hs : Rs W A2 c2 ls) (hz : (∀ t ∈ ls, t.length * 8 ≤ 140737488351232) ∧ ls.length * 24 ≤ 140737488351232) (cols : Int) (hc : (Lit.int .i64 cols).wf = true) (W' : World) (e : W' = W) :
    Calls Tryz.prog 7 #[.int .i64 width, .slice A2 ls.length c2, .int .i64 cols] W' fun e w' => e = .returned (.bool true) ∧ Below W.heap.size W w' := by
  subst e
  by_cases hok : rwrongS width [] = 0 ∧ ls.length ≤ 200
  · obtain ⟨wd, rfl, h8⟩ := width_of hok.1
    exact finds_main W' wd h8 A2 c2 ls hs.C hz.1 hs.le cols hok.2
  · exact finds_else W' width A2 ls.length c2 cols hok
end Go.Proofs.YtcmllllbmgcnlaaGreat.Rl
end
