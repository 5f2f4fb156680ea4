/- Own texts, joined and cut to what the claim stands on: ChRefLeast2, ChChains, ChChains2, ChMore, ChOrders. -/
import Derived.Deep.QuietTactic
import Derived.WalkMore
import Derived.Test.YtcmllllbmgcnlaaGreatQ29
section
namespace Go.Proofs.YtcmllllbmgcnlaaGreat.Ch
open Go.RowKit Go.Deep Go.Proofs.YtcmllllbmgcnlaaGreat.G Go.Proofs.YtcmllllbmgcnlaaGreat.Tup Go.Proofs.YtcmllllbmgcnlaaGreatW.PrintWords Go.Proofs.YtcmllllbmgcnlaaGreatW.PrintLast Go.Proofs.YtcmllllbmgcnlaaGreatW.PrintMore
set_option linter.unusedVariables false
set_option linter.unusedSimpArgs false
def LeastR (l : List Int) (x y : Int) : Prop := y = wrongS 8 l ∧ (y ≠ 0 → x = 0) ∧ (y = 0 → ∃ n : Nat, LeastIs l n ∧ x = n)
theorem shr8 (x : Int) : shr .i64 x 8 = x / 256 := by
  have h : min ((8 : Int)).toNat IntKind.i64.bits = 8 := rfl
  unfold shr
  rw [h]
  rfl
theorem wrong_many {l : List Int} {w : Int} (h : 256 < l.length) : wrongS w l = 3 := by unfold wrongS; rw [if_pos h]
theorem wrong_bad {l : List Int} {w : Int} (h : l.length ≤ 256) (hb : Bad w l) : wrongS w l = 1 := by unfold wrongS; rw [if_neg (by omega), if_pos hb]
theorem wrong_ok {l : List Int} {w : Int} (h : l.length ≤ 256) (hb : ¬ Bad w l) : wrongS w l = 0 := by unfold wrongS; rw [if_neg (by omega), if_neg hb]
theorem lw_start {w1 : World} {u : List Int} {A : Option Addr} {c ba : Nat} (h : (0 < u.length → ba < w1.heap.size) ∧ ∀ k, k < u.length → A = some ⟨ba, 0, none⟩ ∧ w1.cell? ⟨ba, 0 + k, none⟩ = some (.int .i64 u[k]!)) :
    LW u.length A c ba w1.heap.size (fun k => u[k]!) w1 ((w1.alloc (.cells (madeCells #[.int .i64 0] u.length) 3)).alloc (.cells #[.slice A u.length c, .slice (some ⟨w1.heap.size, 0, none⟩) u.length u.length, .slice none 0 0] 162)) (fun _ => 0) := by
  refine ⟨((Below.refl _ w1).alloc (Nat.le_refl _) _).alloc (by simp) _, rfl, ⟨.slice none 0 0, ?_⟩, (World.rowIs_made w1 (.int .i64 0) u.length 3).alloc _, h.2, h.1⟩
  have := World.rowIs_alloc (w1.alloc (.cells (madeCells #[.int .i64 0] u.length) 3)) #[.slice A u.length c, .slice (some ⟨w1.heap.size, 0, none⟩) u.length u.length, .slice none 0 0] 162 (stf A u.length c w1.heap.size (.slice none 0 0)) (fun i hi => by
    have hi3 : i < 3 := hi
    rcases i with _ | _ | _ | i
    · rfl
    · rfl
    · rfl
    · omega)
  simpa using this
theorem LW.congr {n : Nat} {A : Option Addr} {c ba N : Nat} {lv : Nat → Int} {w1 wr : World} {pr pr' : Nat → Int} (h : LW n A c ba N lv w1 wr pr) (e : ∀ k, k < n → pr k = pr' k) : LW n A c ba N lv w1 wr pr' :=
  ⟨h.below, h.sz, h.rb, h.rp.congr fun k hk => by rw [e k hk], h.la, h.lb⟩
theorem least_end {l u : List Int} {F : List Nat} {pr : Nat → Int} (hu : u = unlR [] l) (h : RefO u.length (Ed fun k => u[k]!) pr u.length F) : LeastIs l (max F.length 1) := by
  obtain ⟨D, hf⟩ := refO_fin h
  have hs := unlR_spec l [] List.nodup_nil
  rw [← hu] at hs
  have := least_of (l := l) hs.1 (fun x => (hs.2.1 x).trans ⟨fun h => h.resolve_left (by simp), fun h => .inr h⟩) hf.most
  have hd := hf.dom_length
  have e : u.length - (u.length - F.length) = F.length := by omega
  rw [e] at this
  exact this
set_option maxHeartbeats 4000000 in
set_option maxRecDepth 100000 in
theorem rleast_many (A : Option Addr) (c : Nat) (l : List Int) (w : World) (h : Sl w A c l) (hn : 256 < l.length) :
    Calls Tryz.prog 81 #[.slice A l.length c] w fun e w' => (∃ x y, e = .returned (.tuple #[.int .i64 x, .int .i64 y]) ∧ LeastR l x y) ∧ Below w.heap.size w w' := by
  have hd : decide ((l.length : Int) > 256) = true := decide_eq_true (by omega)
  have hd2 : (l.length : Int) > 256 := by omega
  have HN := Aside0.mk hn
  clear h hn
  go_enter Tryz.func81, Tryz.ntmps81
  go_wp2
  go_ret2
  exact ⟨⟨0, 3, rfl, (wrong_many HN.out).symm, fun _ => rfl, fun h => absurd h (by decide)⟩, Below.refl _ _⟩
set_option maxHeartbeats 4000000 in
set_option maxRecDepth 100000 in
theorem rleast_few (A : Option Addr) (c : Nat) (l : List Int) (w : World) (h : Sl w A c l) (hn : l.length ≤ 256) :
    Calls Tryz.prog 81 #[.slice A l.length c] w fun e w' => (∃ x y, e = .returned (.tuple #[.int .i64 x, .int .i64 y]) ∧ LeastR l x y) ∧ Below w.heap.size w w' := by
  have HS := Aside0.mk h
  have HN := Aside0.mk hn
  obtain ⟨q, hq⟩ : ∃ q, q = l.length := ⟨_, rfl⟩
  rw [← hq]
  have HQ := Aside0.mk hq
  have hd : decide ((q : Int) > 256) = false := decide_eq_false (by omega)
  have hq256 : q ≤ 256 := by omega
  have HU : Aside0 (∀ m, Calls Tryz.prog 98 #[.slice A q c] (w.drewN m) fun e w' => ∃ v, e = .returned v ∧ Kd.R (Kd.int .i64) 3 w' w.heap.size (fun _ => True) v (unlR [] l) ∧ Below w.heap.size w w') := ⟨fun m => by
    rw [hq]
    refine (runlike_calls A c l (w.drewN m) (h.drewN m) (by omega)).mono ?_
    rintro e w' ⟨v, h1, h2, h3⟩
    exact ⟨v, h1, h2, (pw_below_drewN (Below.refl _ w) m).trans h3⟩⟩
  obtain ⟨u, hu⟩ : ∃ u, u = unlR [] l := ⟨_, rfl⟩
  rw [← hu] at HU
  have HUE := Aside0.mk hu
  have hul : u.length ≤ 256 := by have := (unlR_spec l [] List.nodup_nil).2.2; rw [← hu] at this; simp at this; omega
  clear h hn hq hu
  go_enter Tryz.func81, Tryz.ntmps81
  go_wp2_with fail
  go_loopg [4] q (fun gk v4 wr => ∃ (i m : Nat), v4 = .int .i64 (i : Int) ∧ Aside0 (i + gk = q) ∧ Aside0 (∀ j (hj : j < l.length), j < i → ¬ (l[j] < 0 ∨ shr .i64 l[j] 8 ≠ 0)) ∧ wr = w.drewN m)
  case atStart => exact ⟨0, 0, rfl, ⟨by omega⟩, ⟨fun j hj h => by omega⟩, (World.drewN_zero _).symm⟩
  case round =>
    obtain ⟨i, m, rfl, HI, HB, rfl⟩ := hrel
    by_cases hi : i < q
    · have hid : decide (i < q) = true := decide_eq_true hi
      have hii : (i : Int) < (q : Int) := by omega
      have hil : i < l.length := by rw [← HQ.out]; exact hi
      obtain ⟨ad, rfl, hcell⟩ := sl_cells HS.out i hil
      obtain ⟨x, hx⟩ : ∃ x, x = l[i] := ⟨_, rfl⟩
      rw [← hx] at hcell
      have HX := Aside0.mk hx
      clear hx
      by_cases h0 : x < 0
      · have h0d : decide (x < 0) = true := decide_eq_true h0
        go_wp2_with fail
        go_ret2
        have hb : Bad 8 l := ⟨x, by rw [HX.out]; exact List.getElem_mem _, .inl h0⟩
        exact ⟨⟨0, 1, rfl, (wrong_bad HN.out hb).symm, fun _ => rfl, fun h => absurd h (by decide)⟩, pw_below_drewN (Below.refl _ w) _⟩
      · have h0d : decide (x < 0) = false := decide_eq_false h0
        have H8 := Aside0.mk (shr8 x)
        by_cases h1 : x / 256 = 0
        · have h1d : (x / 256 != 0) = false := by rw [h1]; rfl
          have H1 := Aside0.mk h1
          have H0 := Aside0.mk h0
          clear h1 h0
          go_wp2_with fail
          obtain ⟨g2, hg2⟩ : ∃ g2, g2 = gk - 1 := ⟨_, rfl⟩
          go_roundg g2
          case measure => have := HI.out; omega
          case rel =>
            refine ⟨i + 1, _, by go_num, ⟨by have := HI.out; omega⟩, ⟨fun j hj hji => ?_⟩, rfl⟩
            rcases Nat.lt_or_eq_of_le (Nat.le_of_lt_succ hji) with h | h
            · exact HB.out j hj h
            · subst h
              rw [← HX.out]
              rintro (h | h)
              · have := H0.out; omega
              · exact h (H8.out.trans H1.out)
        · have h1d : (x / 256 != 0) = true := bne_iff_ne.2 h1
          have H1 := Aside0.mk h1
          clear h1
          go_wp2_with fail
          go_ret2
          have hb : Bad 8 l := ⟨x, by rw [HX.out]; exact List.getElem_mem _, .inr (by rw [H8.out]; exact H1.out)⟩
          exact ⟨⟨0, 1, rfl, (wrong_bad HN.out hb).symm, fun _ => rfl, fun h => absurd h (by decide)⟩, pw_below_drewN (Below.refl _ w) _⟩
    · have hid : decide (i < q) = false := decide_eq_false hi
      have HNB : Aside0 (¬ Bad 8 l) := ⟨by
        rintro ⟨s, hs, h⟩
        obtain ⟨j, hj, rfl⟩ := List.getElem_of_mem hs
        exact HB.out j hj (by have := HQ.out; omega) h⟩
      have hmk3 := run_make_row' (P := Tryz.prog) 23 3 (.int .i64 0) 8 Tryz.underlying23 info3 rfl .i64 .i64 u.length (by omega) (by omega)
      go_wp2_with (first
        | (go_at_call 98; refine (HU.out _).mono ?_; rintro e w1 ⟨v, rfl, hr1, hb1⟩; have HR1 := Aside0.mk hr1; have HB1 := Aside0.mk hb1; obtain ⟨Au, cu, ba, rfl, hcu, _, hba, hla⟩ := r_cells HR1.out; have HLA := Aside0.mk (And.intro hba hla); clear hr1 hb1 hba hla))
      have HW0 := Aside0.mk (lw_start (c := cu) HLA.out)
      have HBW : Aside0 (Below w.heap.size w w1) := ⟨HB1.out⟩
      obtain ⟨N, hN⟩ : ∃ N, N = w1.heap.size := ⟨_, rfl⟩
      rw [← hN] at HW0 ⊢
      obtain ⟨n, hn⟩ : ∃ n, n = u.length := ⟨_, rfl⟩
      rw [← hn] at HW0 ⊢
      rw [← hn] at hul
      have HNU := Aside0.mk hn
      clear hmk3 hN hn HLA HR1 hcu
      go_loopg [7] n (fun gk v7 wr => ∃ k : Nat, v7 = .int .i64 (k : Int) ∧ Aside0 (k + gk = n) ∧ Aside0 (LW n Au cu ba N (fun k => u[k]!) w1 wr (fun j => if j < k then -1 else 0)))
      case atStart => exact ⟨0, rfl, ⟨by omega⟩, ⟨HW0.out.congr fun k _ => by simp⟩⟩
      case round =>
        obtain ⟨k, rfl, HK, HL⟩ := hrel
        by_cases hk : k < n
        · have hkd : decide (k < n) = true := decide_eq_true hk
          have hki : (k : Int) < (n : Int) := by omega
          have h1 : wr.cell? ⟨N + 1, 1, none⟩ = some (.slice (some ⟨N, 0, none⟩) n n) := by obtain ⟨v2, h⟩ := HL.out.rb; exact h.cell (i := 1) (by omega)
          have h2 : ∀ m, (wr.drewN m).cell? ⟨N, k, none⟩ = some (.int .i64 0) := fun m => by have := HL.out.rp.cell hk; simpa using this
          have h3 : ∀ m, (wr.drewN m).frozen? ⟨N, k, none⟩ = false := fun m => HL.out.rp.frozen k
          have h2' := HL.out.rp.cell hk
          simp only [Nat.lt_irrefl, if_false] at h2'
          have h3' := HL.out.rp.frozen k
          go_wp2_with fail
          obtain ⟨g2, hg2⟩ : ∃ g2, g2 = gk - 1 := ⟨_, rfl⟩
          go_roundg g2
          case measure => have := HK.out; omega
          case rel =>
            refine ⟨k + 1, by go_num, ⟨by have := HK.out; omega⟩, ⟨LW.congr (by first | exact HL.out.put k (-1) | exact (HL.out.drewN _).put k (-1)) fun j hj => ?_⟩⟩
            unfold Ch.put
            by_cases e : j = k
            · subst e; simp
            · rw [if_neg e]
              show (if j < k then (-1 : Int) else 0) = _
              by_cases h : j < k
              · rw [if_pos h, if_pos (by omega)]
              · rw [if_neg h, if_neg (by omega)]
        · have hkd : decide (k < n) = false := decide_eq_false hk
          have HL0 : Aside0 (LW n Au cu ba N (fun k => u[k]!) w1 wr (fun _ => -1)) := ⟨LW.congr HL.out fun j hj => by rw [if_pos (by have := HK.out; omega)]⟩
          clear HL HK
          go_wp2_with fail
          clear hkd hk
          go_loopg [8, 9] n (fun gk v8 v9 wr => ∃ (i nn : Nat) (pr : Nat → Int) (F : List Nat), v9 = .int .i64 (i : Int) ∧ v8 = .int .i64 (nn : Int) ∧ Aside0 (i + gk = n ∧ nn = (n - i) + F.length ∧ F.length ≤ i) ∧ Aside0 (RefO n (Ed fun k => u[k]!) pr i F) ∧ Aside0 (LW n Au cu ba N (fun k => u[k]!) w1 wr pr))
          case atStart => exact ⟨0, n, fun _ => -1, [], rfl, rfl, ⟨⟨by omega, by simp, by simp⟩⟩, ⟨refO_start⟩, HL0⟩
          case round =>
            obtain ⟨i, nn, pr, F, rfl, rfl, HI3, HO, HL⟩ := hrel
            by_cases hi3 : i < n
            · have hid3 : decide (i < n) = true := decide_eq_true hi3
              have hii3 : (i : Int) < (n : Int) := by omega
              have hmk := run_make_row' (P := Tryz.prog) 160 4 (.bool false) 1 Tryz.underlying160 info4 rfl .i64 .i64 n (by omega) (by omega)
              obtain ⟨v2, hv2⟩ : ∃ v2, ∀ o, (wr.alloc o).cell? ⟨N + 1, 2, none⟩ = some v2 ∧ (wr.alloc o).frozen? ⟨N + 1, 2, none⟩ = false := by
                obtain ⟨v2, h⟩ := HL.out.rb
                exact ⟨_, fun o => ⟨(h.alloc o).cell (i := 2) (by omega), (h.alloc o).frozen 2⟩⟩
              have s1 := fun o => (hv2 o).1
              have s2 := fun o => (hv2 o).2
              have HC := Aside0.mk (try_calls n Au cu ba 0 (N + 1) N wr.heap.size (fun k => u[k]!) (by omega) (n + 1) _ pr (fun _ => false) i (by have := uns_le n (fun _ => false); omega) HL.out.see (refO_pre HO.out hi3))
              have HI3L := Aside0.mk hi3
              clear hv2
              go_wp2_with (first
                | (go_at_call 99; refine (HC.out).mono ?_; clear s1 s2 hmk; rintro e w2 ⟨res, pr1, sn2, rfl, hm2, ht2, hno, hyes⟩; have HL2 := Aside0.mk (HL.out.back rfl ht2 hm2); have HNO := Aside0.mk hno; have HYES := Aside0.mk hyes; clear hm2 ht2 hno hyes HC; cases res))
              · obtain ⟨hpr, hno⟩ := HNO.out trivial
                subst hpr
                obtain ⟨g2, hg2⟩ : ∃ g2, g2 = gk - 1 := ⟨_, rfl⟩
                go_roundg g2
                case measure => have := HI3.out; omega
                case rel => exact ⟨i + 1, nn, pr1, F ++ [i], by go_num, rfl, ⟨⟨by have := HI3.out; omega, by have := HI3.out; simp only [List.length_append, List.length_cons, List.length_nil]; omega, by have := HI3.out; simp only [List.length_append, List.length_cons, List.length_nil]; omega⟩⟩, ⟨refO_no HO.out HI3L.out hno⟩, HL2⟩
              · have hyes := HYES.out trivial
                have hnn : 1 ≤ nn := by have := HI3.out; omega
                have hnn2 : nn ≤ 256 := by have := HI3.out; omega
                obtain ⟨g2, hg2⟩ : ∃ g2, g2 = gk - 1 := ⟨_, rfl⟩
                go_roundg g2
                case measure => have := HI3.out; omega
                case rel => exact ⟨i + 1, nn - 1, pr1, F, by go_num, by first | go_num | (congr 1; unfold wrap64; omega), ⟨⟨by have := HI3.out; omega, by have := HI3.out; omega, by have := HI3.out; omega⟩⟩, ⟨refO_yes HO.out HI3L.out hyes⟩, HL2⟩
            · have hid3 : decide (i < n) = false := decide_eq_false hi3
              go_wp2_with fail
              all_goals
                go_ret2
                have hin : i = n := by have := HI3.out; omega
                have hO := HO.out
                rw [hin, HNU.out] at hO
                have hL := least_end HUE.out hO
                have hF : nn = F.length := by have := HI3.out; omega
                rw [← hF] at hL
                exact ⟨⟨_, 0, rfl, (wrong_ok HN.out HNB.out).symm, fun h => absurd rfl h, fun _ => ⟨_, hL, by omega⟩⟩, HBW.out.trans (HL.out.below.mono (by have := HBW.out.size; have := HL.out.sz; omega))⟩
theorem rleast_calls (A : Option Addr) (c : Nat) (l : List Int) (w : World) (h : Sl w A c l) :
    Calls Tryz.prog 81 #[.slice A l.length c] w fun e w' => (∃ x y, e = .returned (.tuple #[.int .i64 x, .int .i64 y]) ∧ LeastR l x y) ∧ Below w.heap.size w w' := by
  by_cases hn : 256 < l.length
  · exact rleast_many A c l w h hn
  · exact rleast_few A c l w h (by omega)
end Go.Proofs.YtcmllllbmgcnlaaGreat.Ch
end
section
namespace Go.Proofs.YtcmllllbmgcnlaaGreat.Ch
open Go.RowKit Go.Deep Go.Proofs.YtcmllllbmgcnlaaGreat.G Go.Proofs.YtcmllllbmgcnlaaGreat.Tup Go.Proofs.YtcmllllbmgcnlaaGreatW.PrintWords Go.Proofs.YtcmllllbmgcnlaaGreatW.PrintLast Go.Proofs.YtcmllllbmgcnlaaGreatW.PrintMore
set_option linter.unusedVariables false
set_option linter.unusedSimpArgs false
theorem sl_rowIs {w : World} {b n : Nat} {tt : Nat → Int} (h : w.rowIs b 3 n (fun k => .int .i64 (tt k))) (hn : n ≤ 4096) : Sl w (some ⟨b, 0, none⟩) n ((List.range n).map tt) := by
  refine ⟨?_, by simp⟩
  rw [List.length_map, List.length_range]
  refine Kd.C_of_reads (d := (0 : Int)) (h1 := fun _ => rfl) ⟨by simp, by omega, fun hp => ⟨_, rfl, fun j hj => ?_⟩⟩
  have := h.cell hj
  rw [add_plain, this]
  simp [List.getD_eq_getElem?_getD, hj]
theorem ow_R {w : World} {base : Nat} {v : Value} {zs : List Int} (h : Ow w base v zs) : Kd.R (Kd.int .i64) 3 w base (fun _ => True) v zs := Kd.R_of_own (h1 := fun _ => rfl) h fun _ _ => trivial
theorem ow_slice {w : World} {base : Nat} {v : Value} {zs : List Int} (h : Ow w base v zs) : ∃ A c, v = .slice A zs.length c ∧ Sl w A c zs := R_sl (ow_R h)
theorem ow_cells {w : World} {base : Nat} {v : Value} {zs : List Int} (h : Ow w base v zs) : ∃ A c ba, v = .slice A zs.length c ∧ (0 < zs.length → ba < w.heap.size) ∧ ∀ k, k < zs.length → A = some ⟨ba, 0, none⟩ ∧ w.cell? ⟨ba, 0 + k, none⟩ = some (.int .i64 zs[k]!) := by
  obtain ⟨A, c, ba, e, _, _, h1, h2⟩ := r_cells (ow_R h)
  exact ⟨A, c, ba, e, h1, h2⟩
structure Rw (w : World) (base : Nat) (v : Value) (rvs : List Value) (rows : List (List Int)) : Prop where
  own : w.ownsRow base 23 1 v rvs.length rvs
  len : rvs.length = rows.length
  els : ∀ j (h1 : j < rvs.length) (h2 : j < rows.length), Ow w base rvs[j] rows[j]
  apart : rvs.Pairwise NeRow
section
variable {w w1 : World} {base : Nat} {v v1 u : Value} {rvs : List Value} {rows : List (List Int)} {r : List Int}
theorem Rw.mem (h : Rw w base v rvs rows) : ∀ x ∈ rvs, ∃ r, Ow w base x r := fun x hx => by
  obtain ⟨j, hj, rfl⟩ := List.getElem_of_mem hx
  exact ⟨_, h.els j hj (by rw [← h.len]; exact hj)⟩
theorem Rw.below (h : Rw w base v rvs rows) (hb : Below w.heap.size w w1) : Rw w1 base v rvs rows :=
  ⟨pw_own_below h.own hb, h.len, fun j h1 h2 => pw_own_below (h.els j h1 h2) hb, h.apart⟩
theorem Rw.grown (h : Rw w base v rvs rows) {row : Option Nat} (hg : w.grownBy w1 row) (hne : v.ownBlock = none ∨ v.ownBlock ≠ row) (hes : ∀ x ∈ rvs, x.ownBlock = none ∨ x.ownBlock ≠ row) : Rw w1 base v rvs rows :=
  ⟨own_other h.own hg hne, h.len, fun j h1 h2 => own_other (h.els j h1 h2) hg (hes _ (List.getElem_mem _)), h.apart⟩
theorem Rw.nil (w : World) (base : Nat) : Rw w base (.slice none 0 0) [] [] := ⟨own_nil _ _ _ _, rfl, fun j h1 _ => absurd h1 (by simp), .nil⟩
theorem Rw.snoc (h : Rw w base v rvs rows) (hu : Ow w base u r) (hne : ∀ x ∈ rvs, NeRow u x) (ho : w1.ownsRow base 23 1 v1 (rvs ++ [u]).length (rvs ++ [u])) (hg : w.grownBy w1 v.ownBlock) : Rw w1 base v1 (rvs ++ [u]) (rows ++ [r]) := by
  have ht : ∀ {x : Value} {q : List Int}, Ow w base x q → Ow w1 base x q := fun hx => own_other hx hg (own_type_ne hx h.own (by decide))
  refine ⟨ho, by simp [h.len], fun j h1 h2 => ?_, ?_⟩
  · by_cases hj : j < rvs.length
    · rw [List.getElem_append_left hj, List.getElem_append_left (by rw [← h.len]; exact hj)]
      exact ht (h.els j hj _)
    · have e : j = rvs.length := by simp at h1; omega
      subst e
      rw [List.getElem_append_right (by omega), List.getElem_append_right (by rw [h.len]; exact Nat.le_refl _)]
      simpa using ht hu
  · rw [List.pairwise_append]
    exact ⟨h.apart, by simp, fun a ha b hb => by rw [List.mem_singleton] at hb; subst hb; exact ne_symm (hne a ha)⟩
structure Rg (w : World) (base : Nat) (v : Value) (rvs : List Value) (rows : List (List Int)) (u : Value) (r : List Int) : Prop where
  rw_ : Rw w base v rvs rows
  ow : Ow w base u r
  ne : ∀ x ∈ rvs, NeRow u x
theorem Rg.below (h : Rg w base v rvs rows u r) (hb : Below w.heap.size w w1) : Rg w1 base v rvs rows u r := ⟨h.rw_.below hb, pw_own_below h.ow hb, h.ne⟩
theorem Rg.start (h : Rw w base v rvs rows) : Rg w base v rvs rows (.slice none 0 0) [] := ⟨h, own_nil _ _ _ _, fun x _ => ne_nil x⟩
theorem Rg.more (h : Rg w base v rvs rows u r) {u1 : Value} {x : Int} (ho : w1.ownsRow base 3 1 u1 (r.map (Value.int .i64) ++ [Value.int .i64 x]).length (r.map (Value.int .i64) ++ [Value.int .i64 x])) (hg : w.grownBy w1 u.ownBlock) (hat : u1.ownBlock = u.ownBlock ∨ ∃ b, u1.ownBlock = some b ∧ w.heap.size ≤ b) : Rg w1 base v rvs rows u1 (r ++ [x]) := by
  refine ⟨h.rw_.grown hg (own_type_ne h.rw_.own h.ow (by decide)) (fun x hx => ne_other (h.ne x hx)), ?_, fun x hx => ?_⟩
  · unfold Ow; simpa using ho
  · obtain ⟨q, hq⟩ := h.rw_.mem x hx
    exact ne_append (h.ne x hx) hat hq
theorem Rg.snoc (h : Rg w base v rvs rows u r) (ho : w1.ownsRow base 23 1 v1 (rvs ++ [u]).length (rvs ++ [u])) (hg : w.grownBy w1 v.ownBlock) : Rw w1 base v1 (rvs ++ [u]) (rows ++ [r]) := h.rw_.snoc h.ow h.ne ho hg
end
theorem infoRow : (Tryz.prog.info? 23).map (fun i => (i.zero, i.size, i.bytes)) = some (some (.slice none 0 0), 1, 24) := by kernel_rfl
def chRowsTo (u : List Int) (n : Nat) (tt : Nat → Int) (i : Nat) : List (List Int) := ((List.range i).filter fun i : Nat => !decide ((i : Int) ∈ (List.range n).map tt)).map fun i : Nat => chRow u n tt i
theorem chRowsTo_all (u : List Int) (n : Nat) (tt : Nat → Int) : chRowsTo u n tt n = chRows u n tt := rfl
theorem chRowsTo_in {u : List Int} {n : Nat} {tt : Nat → Int} {i : Nat} (h : (i : Int) ∈ (List.range n).map tt) : chRowsTo u n tt (i + 1) = chRowsTo u n tt i := by
  unfold chRowsTo
  rw [List.range_succ, List.filter_append]
  simp only [List.filter_cons, decide_eq_true h]
  simp
theorem chRowsTo_out {u : List Int} {n : Nat} {tt : Nat → Int} {i : Nat} (h : (i : Int) ∉ (List.range n).map tt) : chRowsTo u n tt (i + 1) = chRowsTo u n tt i ++ [chRow u n tt i] := by
  unfold chRowsTo
  rw [List.range_succ, List.filter_append]
  simp only [List.filter_cons, decide_eq_false h]
  simp
theorem chRowsTo_len (u : List Int) (n : Nat) (tt : Nat → Int) (i : Nat) : (chRowsTo u n tt i).length ≤ i := by
  unfold chRowsTo
  rw [List.length_map]
  exact Nat.le_trans (List.length_filter_le _ _) (by simp)
theorem chRow_step {u : List Int} {n : Nat} {tt fr : Nat → Int} (hm : Mt n (Ed fun k => u[k]!) (-1) tt fr) (hup : ∀ s k, s < n → k < n → Ed (fun k => u[k]!) s k → s < k) (k : Nat) (hk : k < n) : chRow u n tt k = u[k]! :: chRow u n tt (tt k) := by
  unfold chRow
  rw [rowFrom_step hm hup k hk]; rfl
theorem chRow_neg {u : List Int} {n : Nat} {tt : Nat → Int} {k : Int} (h : k < 0) : chRow u n tt k = [] := by
  unfold chRow
  rw [rowFrom_neg _ _ _ h]; rfl
end Go.Proofs.YtcmllllbmgcnlaaGreat.Ch
end
section
namespace Go.Proofs.YtcmllllbmgcnlaaGreat.Ch
open Go.RowKit Go.Deep Go.Proofs.YtcmllllbmgcnlaaGreat.G Go.Proofs.YtcmllllbmgcnlaaGreat.Tup Go.Proofs.YtcmllllbmgcnlaaGreatW.PrintWords Go.Proofs.YtcmllllbmgcnlaaGreatW.PrintLast Go.Proofs.YtcmllllbmgcnlaaGreatW.PrintMore
set_option linter.unusedVariables false
set_option linter.unusedSimpArgs false
theorem Rw.lower {w : World} {base base' : Nat} {v : Value} {rvs : List Value} {rows : List (List Int)} (h : Rw w base v rvs rows) (hb : base' ≤ base) : Rw w base' v rvs rows :=
  ⟨own_weaken h.own hb, h.len, fun j h1 h2 => own_weaken (h.els j h1 h2) hb, h.apart⟩
theorem Rw.one_nil (w : World) (base : Nat) (hb : base ≤ w.heap.size) : Rw (w.alloc (.cells #[.slice none 0 0] 23)) base (.slice (some ⟨w.heap.size, 0, none⟩) 1 1) [.slice none 0 0] [[]] :=
  ⟨⟨rfl, .inr ⟨w.heap.size, 1, #[.slice none 0 0], rfl, hb, heap_alloc_new w _, Nat.le_refl _, by decide, rfl, rfl⟩⟩, rfl, fun j h1 h2 => by
    have e : j = 0 := by simp at h1; omega
    subst e
    exact own_nil _ _ _ _, by simp⟩
def ChainsR (l : List Int) (w : World) (e : Ending) (w' : World) : Prop :=
  ∃ v rvs rows, e = .returned v ∧ ChainsOk l rows ∧ Rw w' w.heap.size v rvs rows ∧ Below w.heap.size w w' ∧ rows.length ≤ 257
set_option maxHeartbeats 8000000 in
set_option maxRecDepth 100000 in
theorem chains_calls (A : Option Addr) (c : Nat) (l : List Int) (w : World) (h : Sl w A c l) (hn : l.length ≤ 256) (h8 : ∀ x ∈ l, 0 ≤ x ∧ x < 256) :
    Calls Tryz.prog 61 #[.slice A l.length c] w (ChainsR l w) := by
  have HU := Aside0.mk (cunlike_calls A c l w h hn)
  have H8 := Aside0.mk h8
  obtain ⟨u, hu⟩ : ∃ u, u = unS l := ⟨_, rfl⟩
  rw [← hu] at HU
  have HUE := Aside0.mk hu
  have hul : u.length ≤ 256 := by have := (unS_spec l).2.2; rw [← hu] at this; omega
  obtain ⟨n, hnu⟩ : ∃ n, n = u.length := ⟨_, rfl⟩
  rw [← hnu] at hul
  have HNU := Aside0.mk hnu
  have HUP : Aside0 (∀ s k, s < n → k < n → Ed (fun k => u[k]!) s k → s < k) := ⟨fun s k hs hk he => by
    have hs' := unS_sorted l
    rw [← hu] at hs'
    refine edge_up hs' (fun x hx => ?_) (by omega) (by omega) he
    rw [hu] at hx
    exact h8 x (((unS_spec l).2.1 x).1 hx).1⟩
  clear h hn h8 hu hnu
  go_enter Tryz.func61, Tryz.ntmps61
  go_wp2_with (first
    | (go_at_call 84; refine (HU.out).mono ?_; rintro e w1 ⟨v1, rfl, ho1, hb1⟩; obtain ⟨Au, cu, ba, rfl, hla⟩ := ow_cells ho1; rw [← HNU.out] at hla; have HB1 := Aside0.mk hb1; have HLA := Aside0.mk hla; rw [← HNU.out]; clear ho1 hb1 hla)
    | (go_at_call 85; refine (next_calls n Au cu ba (fun k => u[k]!) w1 (by omega) HLA.out.2 HLA.out.1).mono ?_; rintro e w2 ⟨bt, bf, tt, fr, rfl, hnb, hno⟩; have HNB := Aside0.mk hnb; have HNO := Aside0.mk hno; clear hnb hno))
  obtain ⟨N, hN⟩ : ∃ N, N = w2.heap.size := ⟨_, rfl⟩
  have HBT : Aside0 (bt < N ∧ (0 < n → ba < N)) := ⟨by rw [hN]; exact HNB.out.rt.lt, fun h => by have := HNB.out.lb h; have := HNB.out.below.size; omega⟩
  have HN := Aside0.mk hN
  clear hN
  go_loopg [5, 15] n (fun gk v5 v15 wr => ∃ (i : Nat) (rvs : List Value) (A5 : Option Addr) (c5 : Nat), v15 = .int .i64 (i : Int) ∧ v5 = .slice A5 rvs.length c5 ∧ Aside0 (i + gk = n) ∧ Aside0 (Below N w2 wr) ∧ Aside0 (Rw wr N (.slice A5 rvs.length c5) rvs (chRowsTo u n tt i)))
  case atStart => exact ⟨0, [], none, 0, rfl, rfl, ⟨by omega⟩, ⟨Below.refl _ _⟩, ⟨Rw.nil _ _⟩⟩
  case round =>
    obtain ⟨i, rvs, A5, c5, rfl, rfl, HI, HB, HR⟩ := hrel
    by_cases hi : i < n
    · have hid : decide (i < n) = true := decide_eq_true hi
      have hii : (i : Int) < (n : Int) := by omega
      have HIL := Aside0.mk hi
      have hrt : wr.rowIs bt 3 n (fun k => .int .i64 (tt k)) := HNB.out.rt.of_block (HB.out.block _ HBT.out.1)
      have HRT := Aside0.mk hrt
      have hcon := contains_calls (some ⟨bt, 0, none⟩) n ((List.range n).map tt) (i : Int) wr (sl_rowIs hrt (by omega)) (by simp; omega)
      rw [List.length_map, List.length_range] at hcon
      clear hrt
      by_cases hmem : (i : Int) ∈ (List.range n).map tt
      · rw [decide_eq_true hmem] at hcon
        have HME := Aside0.mk hmem
        clear hmem
        go_wp2_with (first
          | (go_at_call 62; refine hcon.mono ?_; clear hcon; rintro e w3 ⟨rfl, ⟨nd, rfl⟩⟩))
        obtain ⟨g2, hg2⟩ : ∃ g2, g2 = gk - 1 := ⟨_, rfl⟩
        go_roundg g2
        case measure => have := HI.out; have := HIL.out; omega
        case rel => exact ⟨i + 1, rvs, A5, c5, by go_num, rfl, ⟨by have := HI.out; have := HIL.out; omega⟩, ⟨pw_below_drewN HB.out _⟩, ⟨by rw [chRowsTo_in HME.out]; exact HR.out.below (pw_below_drewN (Below.refl _ _) _)⟩⟩
      · rw [decide_eq_false hmem] at hcon
        have HME := Aside0.mk hmem
        clear hmem
        go_wp2_with (first
          | (go_at_call 62; refine hcon.mono ?_; clear hcon; rintro e w3 ⟨rfl, ⟨nd, rfl⟩⟩))
        have HB3 : Aside0 (Below N w2 (wr.drewN nd)) := ⟨pw_below_drewN HB.out _⟩
        have HR3 : Aside0 (Rg (wr.drewN nd) N (.slice A5 rvs.length c5) rvs (chRowsTo u n tt i) (.slice none 0 0) []) := ⟨Rg.start (HR.out.below (pw_below_drewN (Below.refl _ _) _))⟩
        have HLR : Aside0 (rvs.length ≤ 256) := ⟨by have h1 := HR.out.len; have h2 := chRowsTo_len u n tt i; have := HIL.out; omega⟩
        clear HB HR HRT hii hid hi
        generalize wr.drewN nd = W3 at HB3 HR3 ⊢
        go_loopg [7, 8] n (fun gk v7 v8 wr => ∃ (k : Int) (r : List Int) (A7 : Option Addr) (c7 : Nat), v8 = .int .i64 k ∧ v7 = .slice A7 r.length c7 ∧ Aside0 (Pl n k) ∧ Aside0 (0 ≤ k → n - k.toNat ≤ gk) ∧ Aside0 (r ++ chRow u n tt k = chRow u n tt i) ∧ Aside0 (r.length ≤ n) ∧ Aside0 (Below N w2 wr) ∧ Aside0 (Rg wr N (.slice A5 rvs.length c5) rvs (chRowsTo u n tt i) (.slice A7 r.length c7) r))
        case atStart => exact ⟨(i : Int), [], none, 0, rfl, rfl, ⟨.inr ⟨i, HIL.out, rfl⟩⟩, ⟨fun _ => by omega⟩, ⟨rfl⟩, ⟨by simp⟩, HB3, HR3⟩
        case round =>
          obtain ⟨k, r, A7, c7, rfl, rfl, HP, HG, HE, HLN, HB4, HR4⟩ := hrel
          by_cases hk : 0 ≤ k
          · have hkd : decide (0 ≤ k) = true := decide_eq_true hk
            obtain ⟨q, hq, rfl⟩ := HP.out.pos hk
            have hqi : (q : Int) < (n : Int) := by omega
            obtain ⟨rfl, _⟩ := HLA.out.2 q hq
            obtain ⟨x, hx⟩ : ∃ x, x = u[q]! := ⟨_, rfl⟩
            have hlk : wr.cell? ⟨ba, q, none⟩ = some (.int .i64 x) := by
              have h1 := (HNB.out.cell q hq).2
              rw [Nat.zero_add] at h1
              rw [HB4.out.cell (p := ⟨ba, q, none⟩) (HBT.out.2 (by omega)), hx]; exact h1
            have HX := Aside0.mk hx
            have HQ := Aside0.mk hq
            have hst := chRow_step HNO.out.1 HUP.out q hq
            rw [← hx] at hst
            have HST := Aside0.mk hst
            have HRL : Aside0 (r.length + 1 ≤ n ∧ N ≤ wr.heap.size) := ⟨by
              have h1 := congrArg List.length HE.out
              rw [hst] at h1
              have h2 := chRow_len u n tt (i : Int)
              simp at h1; omega, by rw [HN.out]; exact HB4.out.size⟩
            clear hx hq hst hk
            go_wp2_with (first
              | ((with_reducible refine gate_builtin (b := .append) (xs := #[.tmp 28, .tmp 33]) rfl ?_); at_builtin; refine print_append (w0 := w2) N rfl (.tmp 28) (.tmp 33) 23 3 (.int .i64 0) 8 rfl Tryz.underlying23 info3 rfl (by decide) (.slice A7 r.length c7) (r.map (Value.int .i64)) (.int .i64 x) rfl rfl rfl ?aO HB4.out HRL.out.2 ?aL ?_; (case aO => rw [List.length_map]; exact HR4.out.ow); (case aL => rw [List.length_map]; have := HRL.out; omega); intro v6 w6 q6 b6 g6 t6; have HR6 := Aside0.mk (HR4.out.more q6 g6 t6); obtain ⟨A8, c8, hv6, _⟩ := ow_slice HR6.out.ow; subst hv6; have HB6 := Aside0.mk b6; have htk := (HNB.out.rt.of_block (b6.block _ HBT.out.1)).cell HQ.out; clear q6 b6 g6 t6 hlk))
            obtain ⟨g2, hg2⟩ : ∃ g2, g2 = gk - 1 := ⟨_, rfl⟩
            go_roundg g2
            case measure => have := HG.out (by omega); have := HQ.out; omega
            case rel =>
              refine ⟨tt q, r ++ [x], A8, c8, rfl, by simp, ⟨HNO.out.1.rt q HQ.out⟩, ⟨fun h0 => ?_⟩, ⟨by rw [← HE.out, HST.out]; simp⟩, ⟨by simp; exact HRL.out.1⟩, HB6, HR6⟩
              obtain ⟨p, hp, e⟩ := (HNO.out.1.rt q HQ.out).pos h0
              have h1 := HUP.out q p HQ.out hp (HNO.out.1.tf q HQ.out p e).2.1
              have := HG.out (by omega)
              rw [e, Int.toNat_natCast]
              omega
          · have hkd : decide (0 ≤ k) = false := decide_eq_false hk
            have hr : r = chRow u n tt (i : Int) := by
              have := HE.out
              rwa [chRow_neg (by omega), List.append_nil] at this
            have HRR := Aside0.mk hr
            have HRL : Aside0 (N ≤ wr.heap.size) := ⟨by rw [HN.out]; exact HB4.out.size⟩
            clear hr hk
            go_wp2_with (first
              | ((with_reducible refine gate_builtin (b := .append) (xs := #[.tmp 35, .tmp 37]) rfl ?_); at_builtin; refine print_append (w0 := w2) N rfl (.tmp 35) (.tmp 37) 44 23 (.slice none 0 0) 24 rfl Tryz.underlying44 infoRow rfl (by decide) (.slice A5 rvs.length c5) rvs (.slice A7 r.length c7) rfl rfl rfl HR4.out.rw_.own HB4.out HRL.out ?aL ?_; (case aL => have := HLR.out; omega); intro v6 w6 q6 b6 g6 t6; have HR6 := Aside0.mk (HR4.out.snoc q6 g6); obtain ⟨A8, c8, hv6⟩ := own_slice HR6.out.own; subst hv6; have HB6 := Aside0.mk b6; clear q6 b6 g6 t6))
            obtain ⟨g2, hg2⟩ : ∃ g2, g2 = n - (i + 1) := ⟨_, rfl⟩
            go_roundg g2
            case measure => have := HI.out; have := HIL.out; omega
            case rel => exact ⟨i + 1, rvs ++ [.slice A7 r.length c7], A8, c8, by rw [wrap_nat _ (by have := HIL.out; omega)], by simp, ⟨by have := HI.out; have := HIL.out; omega⟩, HB6, ⟨by rw [chRowsTo_out HME.out, ← HRR.out]; exact HR6.out⟩⟩
    · have hid : decide (i < n) = false := decide_eq_false hi
      have hin : i = n := by have := HI.out; omega
      have HBW : Aside0 (Below w.heap.size w wr) := ⟨by
        have h1 := HB1.out.trans (HNB.out.below.mono HB1.out.size)
        exact h1.trans (HB.out.mono (by rw [HN.out]; exact h1.size))⟩
      have HNW : Aside0 (w.heap.size ≤ N) := ⟨by rw [HN.out]; have h1 := HB1.out.size; have h2 := HNB.out.below.size; omega⟩
      have hok := chains_ok H8.out HUE.out HNU.out HNO.out
      rw [hin, chRowsTo_all] at HR
      rw [← HR.out.len] at hok
      have hrl : (chRows u n tt).length ≤ n := by rw [← chRowsTo_all]; exact chRowsTo_len u n tt n
      have HRL := Aside0.mk hrl
      have HOK := Aside0.mk hok
      clear hok hin hrl
      by_cases h0 : rvs.length = 0
      · have h0d : ((rvs.length : Int) == 0) = true := beq_iff_eq.2 (by omega)
        have H0 := Aside0.mk h0
        clear h0
        go_wp2_with fail
        go_ret
        refine ⟨_, _, _, rfl, ?_, Rw.one_nil wr w.heap.size HBW.out.size, HBW.out.alloc HBW.out.size _, by simp⟩
        have := HOK.out
        rwa [if_pos H0.out] at this
      · have h0d : ((rvs.length : Int) == 0) = false := beq_eq_false_iff_ne.2 (by omega)
        have H0 := Aside0.mk h0
        clear h0
        go_wp2_with fail
        go_ret
        refine ⟨_, _, _, rfl, ?_, HR.out.lower HNW.out, HBW.out, by have := HRL.out; omega⟩
        have := HOK.out
        rwa [if_neg H0.out] at this
end Go.Proofs.YtcmllllbmgcnlaaGreat.Ch
end
section
namespace Go.Proofs.YtcmllllbmgcnlaaGreat.Ch
open Go.RowKit Go.Lib Go.Proofs.YtcmllllbmgcnlaaGreat.G Go.Proofs.YtcmllllbmgcnlaaGreat.Tup Go.Proofs.YtcmllllbmgcnlaaGreatW.PrintWords
set_option linter.unusedVariables false
set_option linter.unusedSimpArgs false
theorem least_pos {l : List Int} {n : Nat} (h : LeastIs l n) : 1 ≤ n := by
  obtain ⟨_, _, _, _, _, h⟩ := h; omega
end Go.Proofs.YtcmllllbmgcnlaaGreat.Ch
end
section
namespace Go.Proofs.YtcmllllbmgcnlaaGreat.Ch
open Go.RowKit Go.Deep Go.Proofs.YtcmllllbmgcnlaaGreat.G Go.Proofs.YtcmllllbmgcnlaaGreat.Tup Go.Proofs.YtcmllllbmgcnlaaGreatW.PrintWords Go.Proofs.YtcmllllbmgcnlaaGreatW.PrintLast Go.Proofs.YtcmllllbmgcnlaaGreatW.PrintMore
set_option linter.unusedVariables false
set_option linter.unusedSimpArgs false
structure Kp (w w1 : World) (rvs : List Value) (i : Nat) (wr : World) : Prop where
  below : Below w.heap.size w wr
  size : w1.heap.size ≤ wr.heap.size
  kept : ∀ k, k < w1.heap.size → (∀ j (h : j < rvs.length), j < i → some k ≠ rvs[j].ownBlock) → wr.heap[k]? = w1.heap[k]?
section
variable {w w1 wr w2 : World} {rvs ovs : List Value} {rows os : List (List Int)} {i : Nat} {v7 v10 v39 v : Value} {o r : List Int}
theorem Kp.start (h : Below w.heap.size w w1) : Kp w w1 rvs 0 w1 := ⟨h, Nat.le_refl _, fun _ _ _ => rfl⟩
theorem Kp.later (h : Kp w w1 rvs i wr) (hw : w.heap.size ≤ w1.heap.size) (hb : Below w1.heap.size wr w2) : Kp w w1 rvs i w2 :=
  ⟨h.below.trans (hb.mono hw), Nat.le_trans h.size hb.size, fun k hk hj => (hb.block k hk).trans (h.kept k hk hj)⟩
theorem Kp.drewN (h : Kp w w1 rvs i wr) (m : Nat) : Kp w w1 rvs i (wr.drewN m) := ⟨pw_below_drewN h.below m, h.size, h.kept⟩
theorem Kp.row (h : Kp w w1 rvs i wr) (hR : Rw w1 w.heap.size v rvs rows) (h1 : i < rvs.length) (h2 : i < rows.length) : Ow wr w.heap.size rvs[i] rows[i] := by
  refine own_move (hR.els i h1 h2) fun k hk => h.kept k (own_lt (hR.els i h1 h2) k hk) fun j hj hji e => ?_
  have := List.pairwise_iff_getElem.1 hR.apart j i hj h1 hji
  exact this k e.symm hk
theorem Kp.cell (h : Kp w w1 rvs i wr) (hR : Rw w1 w.heap.size v rvs rows) (j : Nat) (hj : j < rvs.length) : ∃ g cap, v = .slice (some ⟨g, 0, none⟩) rvs.length cap ∧ wr.cell? ⟨g, j, none⟩ = some rvs[j] := by
  rcases hR.own.2 with ⟨_, h0⟩ | ⟨g, cap, cur, e, hg, hh, h1, h2, h3, h4⟩
  · omega
  · refine ⟨g, cap, e, ?_⟩
    have hk : wr.heap[g]? = w1.heap[g]? := h.kept g (blk_lt hh) fun q hq _ e' => by
      have := own_type_ne (hR.els q hq (by rw [← hR.len]; exact hq)) hR.own (by decide)
      rcases this with h5 | h5
      · rw [h5] at e'; cases e'
      · rw [e] at h5; exact h5 (by rw [← e']; rfl)
    rw [cell_of_row wr g j cur _ (0, 0) (hk.trans hh)]
    rw [Nat.mul_one] at h4
    have h6 : rvs[j]? = some rvs[j] := List.getElem?_eq_getElem hj
    have h7 : (cur.toList.take rvs.length)[j]? = some rvs[j] := by rw [h4]; exact h6
    rw [List.getElem?_take_of_lt hj, Array.getElem?_toList] at h7
    exact h7
structure OI (w w1 : World) (rvs : List Value) (i : Nat) (wr : World) (v7 : Value) (ovs : List Value) (os : List (List Int)) (v10 : Value) (o : List Int) (v39 : Value) (r : List Int) : Prop where
  kp : Kp w w1 rvs (i + 1) wr
  hw : w.heap.size ≤ w1.heap.size
  rg : Rg wr w1.heap.size v7 ovs os v10 o
  ow : Ow wr w.heap.size v39 r
  ne : NeRow v10 v39
theorem OI.drewN (h : OI w w1 rvs i wr v7 ovs os v10 o v39 r) (m : Nat) : OI w w1 rvs i (wr.drewN m) v7 ovs os v10 o v39 r :=
  ⟨h.kp.drewN m, h.hw, h.rg.below (pw_below_drewN (Below.refl _ _) m), pw_own_below h.ow (pw_below_drewN (Below.refl _ _) m), h.ne⟩
theorem OI.more (h : OI w w1 rvs i wr v7 ovs os v10 o v39 r) {u1 : Value} {x : Int} (ho : w2.ownsRow w1.heap.size 3 1 u1 (o.map (Value.int .i64) ++ [Value.int .i64 x]).length (o.map (Value.int .i64) ++ [Value.int .i64 x])) (hb : Below w1.heap.size wr w2) (hg : wr.grownBy w2 v10.ownBlock) (hat : u1.ownBlock = v10.ownBlock ∨ ∃ b, u1.ownBlock = some b ∧ wr.heap.size ≤ b) : OI w w1 rvs i w2 v7 ovs os u1 (o ++ [x]) v39 r :=
  ⟨h.kp.later h.hw hb, h.hw, h.rg.more ho hg hat, own_other h.ow hg (ne_other h.ne), ne_append h.ne hat h.ow⟩
theorem OI.snoc (h : OI w w1 rvs i wr v7 ovs os v10 o v39 r) {v8 : Value} (ho : w2.ownsRow w1.heap.size 23 1 v8 (ovs ++ [v10]).length (ovs ++ [v10])) (hb : Below w1.heap.size wr w2) (hg : wr.grownBy w2 v7.ownBlock) : Kp w w1 rvs (i + 1) w2 ∧ Rw w2 w1.heap.size v8 (ovs ++ [v10]) (os ++ [o]) :=
  ⟨h.kp.later h.hw hb, h.rg.snoc ho hg⟩
theorem oi_start (hk : Kp w w1 rvs i wr) (hw : w.heap.size ≤ w1.heap.size) (hR : Rw w1 w.heap.size v rvs rows) (h1 : i < rvs.length) (h2 : i < rows.length) (hO : Rw wr w1.heap.size v7 ovs os) (r9 : Value) (h9 : r9 = rvs[i]) {x : Int} {q : List Int} (hq : q = rows[i])
    (ho : w2.ownsRow w.heap.size 3 1 v39 (q.map (Value.int .i64) ++ [Value.int .i64 x]).length (q.map (Value.int .i64) ++ [Value.int .i64 x])) (hb : Below w.heap.size w w2) (hg : (wr.alloc (.cells #[] 3)).grownBy w2 r9.ownBlock) (hat : v39.ownBlock = r9.ownBlock ∨ ∃ b, v39.ownBlock = some b ∧ (wr.alloc (.cells #[] 3)).heap.size ≤ b) :
    OI w w1 rvs i w2 v7 ovs os (.slice (some ⟨wr.heap.size, 0, none⟩) 0 0) [] v39 (q ++ [x]) := by
  have hsz : (wr.alloc (.cells #[] 3)).heap.size = wr.heap.size + 1 := by simp
  have hrow := hR.els i h1 h2
  have h9lt : ∀ k, r9.ownBlock = some k → k < w1.heap.size := fun k e => own_lt hrow k (by rw [← h9]; exact e)
  have hO1 : Rw (wr.alloc (.cells #[] 3)) w1.heap.size v7 ovs os := hO.below (below_alloc (Below.refl _ _) _)
  have hfar : ∀ {e s n : Nat} {y : Value} {xs : List Value} {W : World}, W.ownsRow w1.heap.size e s y n xs → y.ownBlock = none ∨ y.ownBlock ≠ r9.ownBlock := fun {e s n y xs W} hy => by
    cases hb : y.ownBlock with
    | none => exact .inl rfl
    | some b =>
      refine .inr fun e' => ?_
      have h3 := own_base hy b hb
      have h4 := h9lt b e'.symm
      omega
  have hord : Ow (wr.alloc (.cells #[] 3)) w1.heap.size (.slice (some ⟨wr.heap.size, 0, none⟩) 0 0) [] :=
    ⟨rfl, .inr ⟨wr.heap.size, 0, #[], rfl, hk.size, heap_alloc_new wr _, Nat.le_refl _, by decide, rfl, rfl⟩⟩
  refine ⟨⟨hb, by have := hg.size; have := hk.size; omega, fun k hkl hj => ?_⟩, hw, ⟨hO1.grown hg (hfar hO1.own) fun x hx => ?_, own_other hord hg (hfar hord), fun x hx => ?_⟩, ?_, ?_⟩
  · have hks : k < wr.heap.size := by have := hk.size; omega
    have h3 : some k ≠ r9.ownBlock := by rw [h9]; exact hj i h1 (by omega)
    rw [hg.block k (by omega) h3, Below.heap_alloc _ _ _ hks]
    exact hk.kept k hkl fun j hjl hji => hj j hjl (by omega)
  · obtain ⟨_, hx'⟩ := hO1.mem x hx
    exact hfar hx'
  · obtain ⟨_, hx'⟩ := hO.mem x hx
    intro k hk1 hk2
    have h3 : wr.heap.size = k := by simpa [Value.ownBlock] using hk1
    have := own_lt hx' k hk2
    omega
  · unfold Ow; simpa using ho
  · intro k hk1 hk2
    have h3 : wr.heap.size = k := by simpa [Value.ownBlock] using hk1
    rcases hat with e | ⟨b, e, hb'⟩
    · rw [e] at hk2
      have := h9lt k hk2
      have := hk.size
      omega
    · rw [e] at hk2
      injection hk2 with hk2
      omega
end
end Go.Proofs.YtcmllllbmgcnlaaGreat.Ch
end
