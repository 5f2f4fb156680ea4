/- Own texts, joined and cut to what the claim stands on: RlFindB, RlNot, RlPut, RlPut2. -/
import Derived.Deep.RegionHeld3
import Derived.WideLaws
import Derived.Test.YtcmllllbmgcnlaaGreatM30
import Derived.Test.YtcmllllbmgcnlaaGreatM20
section
namespace Go.Proofs.YtcmllllbmgcnlaaGreat.Rl
open Go.RowKit Go.Lib Go.Shelf Go.Proofs.YtcmllllbmgcnlaaGreat.G Go.Proofs.YtcmllllbmgcnlaaGreat.Tup Go.Proofs.YtcmllllbmgcnlaaGreatW.PrintWords Go.Proofs.YtcmllllbmgcnlaaGreatW.PrintLast Go.Proofs.YtcmllllbmgcnlaaGreatW.PrintMore
open Go.Proofs.YtcmllllbmgcnlaaGreat.Ch (pickS pick_calls)
set_option linter.unusedVariables false
set_option linter.unusedSimpArgs false
theorem filt_enters : ∀ args w, (callFunc 50 args).run Tryz.prog w = .ok (.enter 50 args) w := enters_of Tryz.func50 (by kernel_rfl) rfl
theorem notedL_filter {wd : Nat} {R : List Row} {xs : List Tp} (hx : ∀ t, t ∈ xs ↔ t ∈ keys R) {cols : Int} {t : Tp} (ht : t.length = wd) (h0 : 0 ≤ cols) (h1 : cols < 2 ^ wd) : notedL R (xs.filter (agreeB wd cols t)) = findL wd R cols t := by
  unfold findL notedL
  rw [if_pos ⟨ht, h0, h1⟩]
  refine List.filter_congr fun x hxm => ?_
  rw [Bool.eq_iff_iff, decide_eq_true_iff, List.mem_filter]
  exact ⟨fun h => h.2, fun h => ⟨(hx x.1).2 (mem_keys hxm), h⟩⟩
set_option maxHeartbeats 16000000 in
set_option maxRecDepth 100000 in
theorem rfind_other {ok : Nat → Prop} {w : World} {br wd : Nat} {os : List Tp} {R : List Row} {m : Nat} {bss : List Nat} (h : RelAt ok w br wd os R m bss) (Bs Bk Bi : Nat) (hBs : w.cell? ⟨Bs, 0, none⟩ = some (.pointer (some ⟨br, 0, none⟩))) (cols : Int) (hBi : w.cell? ⟨Bi, 0, none⟩ = some (.int .i64 cols)) (Ak : Option Addr) (ck : Nat) (t : Tp) (hBk : w.cell? ⟨Bk, 0, none⟩ = some (.slice Ak t.length ck)) (st : Sl w Ak ck t)
    (ht : t.length = wd) (hc0 : 0 ≤ cols) (hc1 : cols < 2 ^ wd) (hsv : (pickS cols 0 os).2 = false) :
    Seq2R Fence.wide Tryz.prog 45 #[.pointer (some ⟨Bs, 0, none⟩), .pointer (some ⟨Bk, 0, none⟩), .pointer (some ⟨Bi, 0, none⟩)] (findL wd R cols t) w := by
  intro l J Jx W hW hJ hJx hR h0 n
  refine callsIn_wide.2 ?_
  show Calls Tryz.prog 45 #[.func (.yield l) #[] #[], .pointer (some ⟨Bs, 0, none⟩), .pointer (some ⟨Bk, 0, none⟩), .pointer (some ⟨Bi, 0, none⟩)] W (GaveR W.heap.size J Jx (findL wd R cols t))
  have hRW := h.below hW
  have stW := st.below hW
  have cBs := pw_cell_below hW hBs
  have cBk := pw_cell_below hW hBk
  have cBi := pw_cell_below hW hBi
  obtain ⟨Ao, co, As, cs, hp, hco, _, hFo, hFs⟩ := hRW.hp
  have hrc := rec_of hp
  have h0c := hrc.c0
  have h1c := hrc.c1
  have hw8 := hRW.hos.w8
  obtain ⟨pk, hpk⟩ : ∃ pk, pickS cols 0 os = (pk, false) := ⟨_, by rw [← hsv]⟩
  obtain ⟨on, hon⟩ : ∃ on, on = os.length := ⟨_, rfl⟩
  have h2c : W.cell? ⟨br, 2, none⟩ = some (.slice Ao on co) := hrc.c2.trans (by rw [hon])
  have HP := Aside0.mk (fun (w2 : World) (hs : Since W w2) => show Calls Tryz.prog 46 #[.slice Ao on co, .int .i64 cols] w2 (fun e w' => e = .returned (.tuple #[.int .i64 pk, .bool false]) ∧ Drawn0 w2 w') from by
    have := pick_calls Ao co os cols w2 (Kd.C_below (Kd.F_now hFo) hs.b) hco (by have := hRW.hos.n; omega)
    rw [hpk, ← hon] at this
    exact this)
  have HN := Aside0.mk (fun (w4 : World) (hs : Since W w4) => show Calls Tryz.prog 48 #[.pointer (some ⟨br, 0, none⟩), .func (.func 50) #[] #[.pointer (some ⟨Bs, 0, none⟩), .pointer (some ⟨Bi, 0, none⟩), .pointer (some ⟨Bk, 0, none⟩)], .func (.yield l) #[] #[]] w4 (GaveT W.heap.size J Jx (findL wd R cols t)) from by
    obtain ⟨xs, hx, hnd, hln, hsq⟩ := filt_seq (hRW.below hs.b) Bs Bi Bk (pw_cell_below hs.b cBs) cols (pw_cell_below hs.b cBi) Ak ck t (pw_cell_below hs.b cBk) (stW.below hs.b) ht hc0
    have hnl := notedL_filter hx ht hc0 hc1
    have hn := noted_in n (hRW.below hs.b) 50 #[.pointer (some ⟨Bs, 0, none⟩), .pointer (some ⟨Bi, 0, none⟩), .pointer (some ⟨Bk, 0, none⟩)] (fun k => k < w4.heap.size) (fun k hk => hk) (xs.filter (agreeB wd cols t)) (fun t' ht' => (hx t').1 (List.mem_filter.1 ht').1) (hnd.filter _) (Nat.le_trans (List.length_filter_le _ _) hln) hsq filt_enters l W.heap.size hs.b.size J Jx hJ hJx (by rw [hnl]; exact hR) (fun W' hb => h0 W' (hs.step hb).b)
    rw [hnl] at hn
    exact callsIn_wide.1 hn)
  have htb : ((t.length : Int) != (wd : Int)) = false := by simp [ht]
  have hcb : ¬ cols < 0 := by omega
  have hcd : decide (cols < 0) = false := decide_eq_false hcb
  have hsh : (cols / 2 ^ wd != 0) = false := by rw [Int.ediv_eq_zero_of_lt hc0 hc1]; rfl
  have HKP := Aside0.mk (fun (w' : World) (hs : Since W w') => pw_cell_below hs.b cBs)
  clear h hRW hp hFs hFo hJ hJx hR h0 hon stW st hpk hsv ht hc0 hc1 hcb
  go_enter Tryz.func45, Tryz.ntmps45
  go_wp2_with fail
  go_quiet (first | (go_at_call 38; refine (rok_calls _ br (by assumption)).mono ?_; rintro e w' ⟨rfl, rfl⟩; first | exact ⟨rfl, 0, rfl⟩ | exact ⟨rfl, _, rfl⟩))
  go_wp2_with fail
  go_quiet (first | (go_at_call 46; refine (HP.out _ (by repeat (first | exact Since.refl _ | refine Since.drewN ?_ _ | refine Since.drew ?_))).mono ?_; rintro e w' ⟨rfl, ⟨nd, rfl⟩⟩; first | exact ⟨rfl, _, World.drewN_drewN _ _ _⟩ | exact ⟨rfl, _, Eq.trans (World.drewN_drewN _ _ _) (congrArg (World.drewN _) (Nat.add_assoc _ _ _))⟩))
  go_wp2_with (first
    | (go_at_call 48; refine (HN.out _ (by repeat (first | exact Since.refl _ | refine Since.drewN ?_ _ | refine Since.drew ?_))).mono ?_; rintro e w9 ⟨rfl, hG9⟩; have HG9 := Aside0.mk hG9; clear hG9))
  refine bodyPost_ret (results_none rfl _ _ _) rfl ?_
  exact ⟨⟨_, rfl⟩, HG9.out⟩
set_option maxHeartbeats 4000000 in
set_option maxRecDepth 100000 in
theorem rfind1_early (W : World) (l : Nat) (Bs Bk Bi br wd : Nat) (hw8 : wd ≤ 8) (hBs : W.cell? ⟨Bs, 0, none⟩ = some (.pointer (some ⟨br, 0, none⟩))) (h0c : W.cell? ⟨br, 0, none⟩ = some (.bool true)) (h1c : W.cell? ⟨br, 1, none⟩ = some (.int .i64 (wd : Int))) (cols : Int) (hBi : W.cell? ⟨Bi, 0, none⟩ = some (.int .i64 cols)) (Ak : Option Addr) (n ck : Nat) (hBk : W.cell? ⟨Bk, 0, none⟩ = some (.slice Ak n ck)) (hno : ¬ (n = wd ∧ 0 ≤ cols ∧ cols < 2 ^ wd)) :
    Calls Tryz.prog 45 #[.func (.yield l) #[] #[], .pointer (some ⟨Bs, 0, none⟩), .pointer (some ⟨Bk, 0, none⟩), .pointer (some ⟨Bi, 0, none⟩)] W fun e w' => e = .returned (.tuple #[]) ∧ Since W w' := by
  by_cases h1 : n = wd
  · have e1 : ((n : Int) != (wd : Int)) = false := by simp [h1]
    by_cases h2 : cols < 0
    · have e2 : decide (cols < 0) = true := decide_eq_true h2
      clear h1 hno
      go_enter Tryz.func45, Tryz.ntmps45
      go_wp2_with fail
      go_quiet (first | (go_at_call 38; refine (rok_calls _ br (by assumption)).mono ?_; rintro e w' ⟨rfl, rfl⟩; first | exact ⟨rfl, 0, rfl⟩ | exact ⟨rfl, _, rfl⟩))
      go_wp2
      refine bodyPost_ret (results_none rfl _ _ _) rfl ⟨rfl, ?_⟩
      repeat (first | exact Since.refl _ | refine Since.drewN ?_ _ | refine Since.drew ?_)
    · have e2 : decide (cols < 0) = false := decide_eq_false h2
      have e3 : (cols / 2 ^ wd != 0) = true := by
        have hp : (0 : Int) < 2 ^ wd := Int.pow_pos (by decide)
        have hle : (2 : Int) ^ wd ≤ cols := by
          by_cases hlt : cols < 2 ^ wd
          · exact absurd ⟨h1, by omega, hlt⟩ hno
          · omega
        have : 1 ≤ cols / 2 ^ wd := (Int.le_ediv_iff_mul_le hp).2 (by omega)
        exact bne_iff_ne.2 (by omega)
      clear h1 hno
      go_enter Tryz.func45, Tryz.ntmps45
      go_wp2_with fail
      go_quiet (first | (go_at_call 38; refine (rok_calls _ br (by assumption)).mono ?_; rintro e w' ⟨rfl, rfl⟩; first | exact ⟨rfl, 0, rfl⟩ | exact ⟨rfl, _, rfl⟩))
      go_wp2
      refine bodyPost_ret (results_none rfl _ _ _) rfl ⟨rfl, ?_⟩
      repeat (first | exact Since.refl _ | refine Since.drewN ?_ _ | refine Since.drew ?_)
  · have e1 : ((n : Int) != (wd : Int)) = true := by simp; omega
    clear h1 hno
    go_enter Tryz.func45, Tryz.ntmps45
    go_wp2_with fail
    go_quiet (first | (go_at_call 38; refine (rok_calls _ br (by assumption)).mono ?_; rintro e w' ⟨rfl, rfl⟩; first | exact ⟨rfl, 0, rfl⟩ | exact ⟨rfl, _, rfl⟩))
    go_wp2
    refine bodyPost_ret (results_none rfl _ _ _) rfl ⟨rfl, ?_⟩
    repeat (first | exact Since.refl _ | refine Since.drewN ?_ _ | refine Since.drew ?_)
theorem rfind_early {ok : Nat → Prop} {w : World} {br wd : Nat} {os : List Tp} {R : List Row} {m : Nat} {bss : List Nat} (h : RelAt ok w br wd os R m bss) (Bs Bk Bi : Nat) (hBs : w.cell? ⟨Bs, 0, none⟩ = some (.pointer (some ⟨br, 0, none⟩))) (cols : Int) (hBi : w.cell? ⟨Bi, 0, none⟩ = some (.int .i64 cols)) (Ak : Option Addr) (ck : Nat) (t : Tp) (hBk : w.cell? ⟨Bk, 0, none⟩ = some (.slice Ak t.length ck))
    (hno : ¬ (t.length = wd ∧ 0 ≤ cols ∧ cols < 2 ^ wd)) :
    Seq2R Fence.wide Tryz.prog 45 #[.pointer (some ⟨Bs, 0, none⟩), .pointer (some ⟨Bk, 0, none⟩), .pointer (some ⟨Bi, 0, none⟩)] (findL wd R cols t) w := by
  have e : findL wd R cols t = [] := by unfold findL; rw [if_neg hno]
  rw [e]
  intro l J Jx W hW hJ hJx hR h0 n
  obtain ⟨Ao, co, As, cs, hp, _⟩ := (h.below hW).hp
  have hrc := rec_of hp
  refine callsIn_wide.2 ((rfind1_early W l Bs Bk Bi br wd h.hos.w8 (pw_cell_below hW hBs) hrc.c0 hrc.c1 cols (pw_cell_below hW hBi) Ak t.length ck (pw_cell_below hW hBk) hno).mono ?_)
  rintro e w' ⟨rfl, hs⟩
  exact ⟨⟨_, rfl⟩, _, hs.b.size, .inl (h0 w' hs.b)⟩
end Go.Proofs.YtcmllllbmgcnlaaGreat.Rl
end
section
namespace Go.Proofs.YtcmllllbmgcnlaaGreat.Rl
open Go.RowKit Go.Lib Go.Deep Go.Proofs.YtcmllllbmgcnlaaGreat.G Go.Proofs.YtcmllllbmgcnlaaGreat.Tup Go.Proofs.YtcmllllbmgcnlaaGreatW.PrintWords Go.Proofs.YtcmllllbmgcnlaaGreatW.PrintLast Go.Proofs.YtcmllllbmgcnlaaGreatW.PrintMore
set_option linter.unusedVariables false
set_option linter.unusedSimpArgs false
theorem lookF_width {wd : Nat} {R : List Row} (h : RowsOk wd R) {t : Tp} (hl : t.length ≠ wd) : lookF R t = none := lookF_none.2 fun hm => hl (h.key hm)
theorem look_true {W : World} {m wd : Nat} {R : List Row} (h : MapAt W m wd R) (hwd : wd ≤ 8) (t : List Int) (ht : t.length = wd) :
    (Instr.lookup 72 (.map (some m)) (keyV t) true).run Tryz.prog W = .ok (.tuple #[noteOf (lookF R t), .bool (lookF R t).isSome]) W := look_run W h hwd t ht true
set_option maxHeartbeats 4000000 in
set_option maxRecDepth 100000 in
theorem rnote_calls {ok : Nat → Prop} {W : World} {br wd : Nat} {os : List Tp} {R : List Row} {m : Nat} {bss : List Nat} (h : RelAt ok W br wd os R m bss) (At : Option Addr) (ct : Nat) (t : Tp) (st : Sl W At ct t) :
    Calls Tryz.prog 24 #[.pointer (some ⟨br, 0, none⟩), .slice At t.length ct] W fun e w' => e = .returned (.tuple #[noteOf (lookF R t), .bool (lookF R t).isSome]) ∧ Below W.heap.size W w' := by
  obtain ⟨Ao, co, As, cs, hp, _⟩ := h.hp
  have hr := rec_of hp
  have h0 := hr.c0
  have h1 := hr.c1
  have h4 := hr.c4
  by_cases hl : t.length = wd
  · have hd : ((t.length : Int) == (wd : Int)) = true := by simp [hl]
    have hw8 := h.hos.w8
    have HM := Aside0.mk h.map
    have HS := Aside0.mk st
    obtain ⟨q, hq⟩ : ∃ q, q = noteOf (lookF R t) := ⟨_, rfl⟩
    obtain ⟨b, hb⟩ : ∃ b, b = (lookF R t).isSome := ⟨_, rfl⟩
    have HL := Aside0.mk (fun (w' : World) (hs : Since W w') => (look_true (HM.out.step (hs.b.block _ HM.out.lt)) hw8 t hl))
    rw [← hq, ← hb] at HL ⊢
    have HKP := Aside0.mk (fun (w' : World) (hs : Since W w') => And.intro (pw_cell_below hs.b h4) hs)
    have H8 := Aside0.mk (show t.length ≤ 8 by omega)
    clear h st hp hr hq hb hw8 hl
    go_enter Tryz.func24, Tryz.ntmps24
    go_wp2_with (go_at_call 38; refine (rok_calls _ br h0).mono ?_; rintro e w' ⟨rfl, rfl⟩)
    go_region_held3 (fun w' => w'.cell? ⟨br, 4, none⟩ = some (.map (some m)) ∧ Since W w')
      (exact HKP.out _ (by ((try go_split_ands); first | exact (Since.refl _).drew | assumption | exact Since.trans (by assumption) (by assumption))))
      (first
        | (go_at_call 39; (refine (key_calls _ At ct t (Sl.below HS.out (by go_split_ands; exact Since.b (by assumption))) H8.out).mono ?_); rintro e w' ⟨rfl, hb5⟩; have hs5 := Since.mk hb5; have hlk := HL.out w' (Since.trans (by go_split_ands; assumption) hs5)))
    have hs9 : Since W w' := by go_split_ands; assumption
    have HS9 := Aside0.mk hs9
    clear hs9
    go_wp2
    go_ret2
    exact ⟨rfl, HS9.out.b⟩
  · have hd : ((t.length : Int) == (wd : Int)) = false := by simp; omega
    rw [lookF_width h.hR hl]
    clear h st hp hr hl
    go_enter Tryz.func24, Tryz.ntmps24
    go_wp2_with (go_at_call 38; refine (rok_calls _ br h0).mono ?_; rintro e w' ⟨rfl, rfl⟩)
    go_ret2
    exact ⟨rfl, Below.refl _ _⟩
set_option maxHeartbeats 1000000 in
set_option maxRecDepth 100000 in
theorem rlen_calls {ok : Nat → Prop} {W : World} {br wd : Nat} {os : List Tp} {R : List Row} {m : Nat} {bss : List Nat} (h : RelAt ok W br wd os R m bss) :
    Calls Tryz.prog 15 #[.pointer (some ⟨br, 0, none⟩)] W fun e w' => e = .returned (.int .i64 (R.length : Int)) ∧ W = w' := by
  obtain ⟨Ao, co, As, cs, hp, _⟩ := h.hp
  have hr := rec_of hp
  have h0 := hr.c0
  have h4 := hr.c4
  obtain ⟨es, clock, M, hm, hE, _, hl, _⟩ := h.map
  have hes : es.size = R.length := by
    have := congrArg List.length hE
    simpa [hl] using this
  have hlen : ∀ ty, (Builtin.len_ #[72] ty #[.map (some m)]).run Tryz.prog W = .ok (.int .i64 (R.length : Int)) W := fun ty => (run_len_map W _ ty m es clock (by kernel_rfl) hm).trans (by rw [hes]; rfl)
  clear hE hl h hp hr hes hm
  go_enter Tryz.func15, Tryz.ntmps15
  go_wp2_with (go_at_call 38; refine (rok_calls _ br h0).mono ?_; rintro e w' ⟨rfl, rfl⟩)
  go_ret
  exact ⟨rfl, rfl⟩
end Go.Proofs.YtcmllllbmgcnlaaGreat.Rl
end
section
namespace Go.Proofs.YtcmllllbmgcnlaaGreat.Rl
open Go.RowKit Go.Lib Go.Deep Go.Proofs.YtcmllllbmgcnlaaGreat.G Go.Proofs.YtcmllllbmgcnlaaGreat.Tup Go.Proofs.YtcmllllbmgcnlaaGreatW.PrintWords Go.Proofs.YtcmllllbmgcnlaaGreatW.PrintLast Go.Proofs.YtcmllllbmgcnlaaGreatW.PrintMore
set_option linter.unusedVariables false
set_option linter.unusedSimpArgs false
theorem nodup_le : ∀ (L M : List Tp), L.Nodup → (∀ x ∈ L, x ∈ M) → L.length ≤ M.length
  | [], _, _, _ => by simp
  | a :: L, M, hn, h => by
    rw [List.nodup_cons] at hn
    have ha : a ∈ M := h a (by simp)
    have := nodup_le L (M.erase a) hn.2 fun x hx => (List.mem_erase_of_ne (fun e => hn.1 (by rw [← e]; exact hx))).2 (h x (by simp [hx]))
    rw [List.length_erase_of_mem ha] at this
    have hp := List.length_pos_of_mem ha
    simp only [List.length_cons]; omega
theorem insTo_set {o : Tp} {L : List Tp} {t : Tp} (hl : L.length < 1024) (ht : t.length = o.length) (a : Tp) : a ∈ insTo o L t ↔ (a ∈ L ∨ a = t) := by
  unfold insTo insAns
  by_cases h2 : t ∈ L
  · simp only [ht, ne_eq, not_true_eq_false, ite_false, h2, ite_true, Bool.false_eq_true]
    exact ⟨.inl, fun h => h.elim id fun e => e ▸ h2⟩
  · have h3 : ¬ 1024 ≤ L.length := by omega
    simp only [ht, ne_eq, not_true_eq_false, ite_false, h2, h3, ite_true]
    rw [insO_mem]
    exact or_comm
theorem heightF_right {x y : Nat} (h : (heightF x y).2.2 = true) : rightB (heightF x y).1 = true ∧ rightB (heightF x y).2.1 = true := by
  have key : ∀ x, (wholeF x).2 = true → rightB (wholeF x).1 = true := fun x hx => by
    unfold wholeF at hx ⊢
    by_cases hi : inR x = true
    · rw [if_pos hi]
      obtain ⟨_, h1, h2⟩ := tI_in hi
      simp only [rightB, Bool.and_eq_true, Bool.not_eq_true', decide_eq_false_iff_not]
      exact ⟨by omega, by omega⟩
    · rw [if_neg hi] at hx; cases hx
  unfold heightF at h ⊢
  by_cases hc : ((wholeF x).2 && (wholeF y).2) = true
  · rw [if_pos hc]
    rw [Bool.and_eq_true] at hc
    exact ⟨key x hc.1, key y hc.2⟩
  · rw [if_neg hc] at h; cases h
def putC (wd : Nat) (R : List Row) (t : Tp) (x y : Nat) : List Row × Bool × Int :=
  if t.length ≠ wd then (R, false, 14) else if (heightF x y).2.2 = true then (putTo wd R t ((heightF x y).1, (heightF x y).2.1), putAns wd R t) else (R, false, 1)
def PutR (ok : Nat → Prop) (W : World) (br wd : Nat) (os : List Tp) (m : Nat) (bss : List Nat) (C : List Row × Bool × Int) (e : Ending) (w' : World) : Prop :=
  e = .returned (.tuple #[.bool C.2.1, .int .i64 C.2.2]) ∧ RelAt (Plus ok W.heap.size) w' br wd os C.1 m bss ∧ KeptS (fun k => k = m ∨ k ∈ bss) W w'
theorem RelAt.plus {ok : Nat → Prop} {W W1 : World} {br wd : Nat} {os : List Tp} {R : List Row} {m : Nat} {bss : List Nat} (h : RelAt ok W br wd os R m bss) (hb : Below W.heap.size W W1) : RelAt (Plus ok W.heap.size) W1 br wd os R m bss :=
  (h.below hb).mono (fun _ hk => .inl hk) (fun hk => hk.elim h.nr.1 fun hk => by have := h.lt; omega) (fun hk => hk.elim h.nm fun hk => by have := h.map.lt; omega) (fun b hb hk => hk.elim (h.nb b hb).1 fun hk => by have := h.blt b hb; omega)
set_option maxHeartbeats 4000000 in
set_option maxRecDepth 100000 in
theorem rput_width {ok : Nat → Prop} {W : World} {br wd : Nat} {os : List Tp} {R : List Row} {m : Nat} {bss : List Nat} (h : RelAt ok W br wd os R m bss) (x y : Nat) (At : Option Addr) (ct : Nat) (t : Tp) (hl : t.length ≠ wd) :
    Calls Tryz.prog 13 #[.pointer (some ⟨br, 0, none⟩), .complex .f64 x y, .slice At t.length ct] W (PutR ok W br wd os m bss (R, false, 14)) := by
  obtain ⟨Ao, co, As, cs, hp, _⟩ := h.hp
  have hr := rec_of hp
  have h0 := hr.c0
  have h1 := hr.c1
  have hd : ((t.length : Int) == (wd : Int)) = false := by simp; omega
  have H := Aside0.mk h
  clear h hp hr hl
  go_enter Tryz.func13, Tryz.ntmps13
  go_wp2_with (go_at_call 38; refine (rok_calls _ br h0).mono ?_; rintro e w' ⟨rfl, rfl⟩)
  go_ret2
  exact ⟨rfl, H.out.plus (Below.refl _ _), .refl _ _⟩
set_option maxHeartbeats 4000000 in
set_option maxRecDepth 100000 in
theorem rput_arg {ok : Nat → Prop} {W : World} {br wd : Nat} {os : List Tp} {R : List Row} {m : Nat} {bss : List Nat} (h : RelAt ok W br wd os R m bss) (x y : Nat) (At : Option Addr) (ct : Nat) (t : Tp) (hl : t.length = wd) (hx : (heightF x y).2.2 = false) :
    Calls Tryz.prog 13 #[.pointer (some ⟨br, 0, none⟩), .complex .f64 x y, .slice At t.length ct] W (PutR ok W br wd os m bss (R, false, 1)) := by
  obtain ⟨Ao, co, As, cs, hp, _⟩ := h.hp
  have hr := rec_of hp
  have h0 := hr.c0
  have h1 := hr.c1
  have hd : ((t.length : Int) == (wd : Int)) = true := by simp [hl]
  have H := Aside0.mk h
  have HH := Aside0.mk (height_calls W x y)
  rw [hx] at HH
  obtain ⟨N, hN⟩ : ∃ N, N = heightF x y := ⟨_, rfl⟩
  rw [← hN] at HH
  clear h hp hr hl hx hN
  go_enter Tryz.func13, Tryz.ntmps13
  go_wp2_with (first
    | (go_at_call 38; refine (rok_calls _ br h0).mono ?_; rintro e w' ⟨rfl, rfl⟩)
    | (go_at_call 17; refine HH.out.mono ?_; rintro e w' ⟨rfl, rfl⟩))
  go_ret2
  exact ⟨rfl, H.out.plus (Below.refl _ _), .refl _ _⟩
set_option maxHeartbeats 8000000 in
set_option maxRecDepth 100000 in
theorem rput_worse {ok : Nat → Prop} {W : World} {br wd : Nat} {os : List Tp} {R : List Row} {m : Nat} {bss : List Nat} (h : RelAt ok W br wd os R m bss) (x y : Nat) (At : Option Addr) (ct : Nat) (t : Tp) (st : Sl W At ct t) (hl : t.length = wd) (n1 n2 : Int) (hx : heightF x y = (n1, n2, true)) (o1 o2 : Int) (ho : lookF R t = some (o1, o2)) (hb : betterB n1 n2 o1 o2 = false) :
    Calls Tryz.prog 13 #[.pointer (some ⟨br, 0, none⟩), .complex .f64 x y, .slice At t.length ct] W (PutR ok W br wd os m bss (R, false, 0)) := by
  obtain ⟨Ao, co, As, cs, hp, _⟩ := h.hp
  have hr := rec_of hp
  have h0 := hr.c0
  have h1 := hr.c1
  have h4 := hr.c4
  have hd : ((t.length : Int) == (wd : Int)) = true := by simp [hl]
  have H := Aside0.mk h
  have HS := Aside0.mk st
  have HH := Aside0.mk (height_calls W x y)
  rw [hx] at HH
  have hrt := heightF_right (x := x) (y := y) (by rw [hx])
  rw [hx] at hrt
  have hro := h.hR.nt _ (lookF_mem ho)
  have HBt := Aside0.mk (fun w => better_calls w n1 n2 o1 o2 hrt.1 hrt.2 hro.1 hro.2)
  rw [hb] at HBt
  have H8 := Aside0.mk (show t.length ≤ 8 by have := h.hos.w8; omega)
  have HL := Aside0.mk (fun (w' : World) (hs : Since W w') => (look_true (h.map.step (hs.b.block _ h.map.lt)) h.hos.w8 t hl).trans (by rw [ho]; rfl : _ = Result.ok (.tuple #[.complex .f64 (nf o1) (nf o2), .bool true]) w'))
  have HKP := Aside0.mk (fun (w' : World) (hs : Since W w') => And.intro (pw_cell_below hs.b h4) hs)
  clear h st hp hr hl hx hrt hro hb ho
  go_enter Tryz.func13, Tryz.ntmps13
  go_wp2_with (first
    | (go_at_call 38; refine (rok_calls _ br h0).mono ?_; rintro e w' ⟨rfl, rfl⟩)
    | (go_at_call 17; refine HH.out.mono ?_; rintro e w' ⟨rfl, rfl⟩))
  go_region_held3 (fun w' => w'.cell? ⟨br, 4, none⟩ = some (.map (some m)) ∧ Since W w')
    (exact HKP.out _ (by ((try go_split_ands); first | exact (Since.refl _).drew | assumption | exact Since.trans (by assumption) (by assumption))))
    (first
      | (go_at_call 39; (refine (key_calls _ At ct t (Sl.below HS.out (by go_split_ands; exact Since.b (by assumption))) H8.out).mono ?_); rintro e w' ⟨rfl, hb5⟩; have hs5 := Since.mk hb5; have hlk := HL.out w' (Since.trans (by go_split_ands; assumption) hs5)))
  have hs9 : Since W w' := by go_split_ands; assumption
  have HS9 := Aside0.mk hs9
  clear hs9
  go_wp2_with (go_at_call 40; refine (HBt.out _).mono ?_; rintro e w'' ⟨rfl, rfl⟩)
  go_ret2
  exact ⟨rfl, H.out.plus HS9.out.b, .below HS9.out.b⟩
theorem upd_at {W : World} {m wd : Nat} {R : List Row} (h : MapAt W m wd R) (hwd : wd ≤ 8) (t : List Int) (ht : t.length = wd) (n1 n2 : Int) :
    ∃ ob, (Instr.mapUpdate 72 (.map (some m)) (keyV t) (.complex .f64 (floatOfInt .f64 n1) (floatOfInt .f64 n2))).run Tryz.prog W = .ok () (W.putObj m ob) ∧ MapAt (W.putObj m ob) m wd (updF R t (n1, n2)) := upd_run W h hwd t ht (n1, n2)
theorem RelAt.upd {ok : Nat → Prop} {W W1 : World} {br wd : Nat} {os : List Tp} {R R' : List Row} {m : Nat} {bss : List Nat} (h : RelAt ok W br wd os R m bss) (hk : KeptS (fun k => k = m) W W1) (hM : MapAt W1 m wd R') (hR' : RowsOk wd R') (hs : keys R' = keys R) : RelAt (Plus ok W.heap.size) W1 br wd os R' m bss := by
  have hS : ∀ k, ok k → k < W.heap.size → W1.heap[k]? = W.heap[k]? := fun k hk' hlt => hk.same k hlt (fun e => h.nm (e ▸ hk'))
  obtain ⟨Ao, co, As, cs, hp, h1, h2, h3, h4⟩ := h.hp
  refine ⟨⟨Ao, co, As, cs, (hk.same br h.lt h.nr.2).trans hp, h1, h2, Kd.F_mono (Kd.F_step h3 hS) (fun _ hk => .inl hk), Kd.F_mono (Kd.F_step h4 hS) (fun _ hk => .inl hk)⟩, h.hos, hR', hM, h.len, ?_, h.nd, fun b hb => ⟨fun hk => hk.elim (h.nb b hb).1 fun hk => by have := h.blt b hb; omega, (h.nb b hb).2⟩, ⟨fun hk => hk.elim h.nr.1 fun hk => by have := h.lt; omega, h.nr.2⟩, fun hk => hk.elim h.nm fun hk => by have := h.map.lt; omega⟩
  rw [hs]
  exact (h.sets.step hS (fun b hb hlt => hk.same b hlt (h.nb b hb).2.2)).mono (fun _ hk => .inl hk) (fun b hb hk => hk.elim (h.nb b hb).1 fun hk => by have := h.blt b hb; omega)
set_option maxHeartbeats 8000000 in
set_option maxRecDepth 100000 in
theorem rput_better {ok : Nat → Prop} {W : World} {br wd : Nat} {os : List Tp} {R : List Row} {m : Nat} {bss : List Nat} (h : RelAt ok W br wd os R m bss) (x y : Nat) (At : Option Addr) (ct : Nat) (t : Tp) (st : Sl W At ct t) (hl : t.length = wd) (n1 n2 : Int) (hx : heightF x y = (n1, n2, true)) (o1 o2 : Int) (ho : lookF R t = some (o1, o2)) (hb : betterB n1 n2 o1 o2 = true) :
    Calls Tryz.prog 13 #[.pointer (some ⟨br, 0, none⟩), .complex .f64 x y, .slice At t.length ct] W (PutR ok W br wd os m bss (updF R t (n1, n2), false, 0)) := by
  obtain ⟨Ao, co, As, cs, hp, _⟩ := h.hp
  have hr := rec_of hp
  have h0 := hr.c0
  have h1 := hr.c1
  have h4 := hr.c4
  have hd : ((t.length : Int) == (wd : Int)) = true := by simp [hl]
  have H := Aside0.mk h
  have HS := Aside0.mk st
  have HH := Aside0.mk (height_calls W x y)
  rw [hx] at HH
  have hrt := heightF_right (x := x) (y := y) (by rw [hx])
  rw [hx] at hrt
  have hro := h.hR.nt _ (lookF_mem ho)
  have HBt := Aside0.mk (fun w => better_calls w n1 n2 o1 o2 hrt.1 hrt.2 hro.1 hro.2)
  rw [hb] at HBt
  have H8 := Aside0.mk (show t.length ≤ 8 by have := h.hos.w8; omega)
  have HL := Aside0.mk (fun (w' : World) (hs : Since W w') => (look_true (h.map.step (hs.b.block _ h.map.lt)) h.hos.w8 t hl).trans (by rw [ho]; rfl : _ = Result.ok (.tuple #[.complex .f64 (nf o1) (nf o2), .bool true]) w'))
  have HU := Aside0.mk (fun (w' : World) (hs : Since W w') => upd_at (h.map.step (hs.b.block _ h.map.lt)) h.hos.w8 t hl n1 n2)
  have HKP := Aside0.mk (fun (w' : World) (hs : Since W w') => And.intro (pw_cell_below hs.b h4) hs)
  have HKQ := Aside0.mk (fun (w' : World) (hs : KeptS (fun k => k = m) W w') => And.intro (show w'.cell? ⟨br, 4, none⟩ = some (.map (some m)) from (Tup.cell_of_heap ((hs.same br h.lt h.nr.2).trans hp) 4).trans rfl) hs)
  have HR := Aside0.mk (h.hR.upd (n := (n1, n2)) (mem_keys (lookF_mem ho)) hrt.1 hrt.2)
  have HKy := Aside0.mk (updF_keys (n := (n1, n2)) (mem_keys (lookF_mem ho)))
  clear h st hp hr hl hx hrt hro hb ho
  go_enter Tryz.func13, Tryz.ntmps13
  go_wp2_with (first
    | (go_at_call 38; refine (rok_calls _ br h0).mono ?_; rintro e w' ⟨rfl, rfl⟩)
    | (go_at_call 17; refine HH.out.mono ?_; rintro e w' ⟨rfl, rfl⟩))
  go_region_held3 (fun w' => w'.cell? ⟨br, 4, none⟩ = some (.map (some m)) ∧ Since W w')
    (exact HKP.out _ (by ((try go_split_ands); first | exact (Since.refl _).drew | assumption | exact Since.trans (by assumption) (by assumption))))
    (first
      | (go_at_call 39; (refine (key_calls _ At ct t (Sl.below HS.out (by go_split_ands; exact Since.b (by assumption))) H8.out).mono ?_); rintro e w' ⟨rfl, hb5⟩; have hs5 := Since.mk hb5; have hlk := HL.out w' (Since.trans (by go_split_ands; assumption) hs5)))
  have hs9 : Since W w' := by go_split_ands; assumption
  have HS9 := Aside0.mk hs9
  have HKq := Aside0.mk (HKQ.out _ (KeptS.below (S := fun k => k = m) hs9.drew.b))
  clear hs9
  go_wp2_with (go_at_call 40; refine (HBt.out _).mono ?_; rintro e w'' ⟨rfl, rfl⟩)
  go_region_held3 (fun w2 => w2.cell? ⟨br, 4, none⟩ = some (.map (some m)) ∧ KeptS (fun k => k = m) W w2)
    (first | exact HKq.out | exact HKQ.out _ (KeptS.below (Since.b (by assumption))) | exact HKQ.out _ ((KeptS.below (Since.b (by assumption))).trans (KeptS.put _ _ rfl)))
    (first
      | (go_at_call 39; (refine (key_calls _ At ct t (Sl.below HS.out HS9.out.drew.b) H8.out).mono ?_); rintro e w3 ⟨rfl, hb5⟩; have hs5 : Since W w3 := HS9.out.drew.trans (Since.mk hb5); obtain ⟨ob, hup, hM⟩ := HU.out w3 hs5; have HS5 := Aside0.mk hs5; have HM := Aside0.mk hM; clear hM))
  go_wp2
  go_ret2
  have hk9 : KeptS (fun k => k = m) W (w3.putObj m ob) := (KeptS.below HS5.out.b).trans (KeptS.put _ _ rfl)
  exact ⟨rfl, H.out.upd hk9 HM.out HR.out HKy.out, hk9.mono fun _ h => .inl h⟩
end Go.Proofs.YtcmllllbmgcnlaaGreat.Rl
end
section
namespace Go.Proofs.YtcmllllbmgcnlaaGreat.Rl
open Go.RowKit Go.Lib Go.Deep Go.Proofs.YtcmllllbmgcnlaaGreat.G Go.Proofs.YtcmllllbmgcnlaaGreat.Tup Go.Proofs.YtcmllllbmgcnlaaGreatW.PrintWords Go.Proofs.YtcmllllbmgcnlaaGreatW.PrintLast Go.Proofs.YtcmllllbmgcnlaaGreatW.PrintMore
set_option linter.unusedVariables false
set_option linter.unusedSimpArgs false
structure NewI (ok : Nat → Prop) (W : World) (os : List Tp) (m wd : Nat) (bss : List Nat) (R : List Row) (R' : List Row) (t : Tp) (i : Nat) (wr : World) : Prop where
  kp : KeptS (fun k => k = m ∨ k ∈ bss) W wr
  map : MapAt wr m wd R'
  sets : SetsAt (Plus ok W.heap.size) wr os bss (fun j s => s ∈ keys R ∨ (j < i ∧ s = t))
section
variable {ok : Nat → Prop} {W W1 : World} {br wd : Nat} {os : List Tp} {R R' : List Row} {m : Nat} {bss : List Nat} {t : Tp} {i : Nat} {wr : World}
theorem NewI.start (h : RelAt ok W br wd os R m bss) (hk : KeptS (fun k => k = m) W W1) (hM : MapAt W1 m wd R') : NewI ok W os m wd bss R R' t 0 W1 := by
  have hS : ∀ k, ok k → k < W.heap.size → W1.heap[k]? = W.heap[k]? := fun k hk' hlt => hk.same k hlt (fun e => h.nm (e ▸ hk'))
  refine ⟨hk.mono fun _ h => .inl h, hM, ?_⟩
  have := (h.sets.step hS (fun b hb hlt => hk.same b hlt (h.nb b hb).2.2)).mono (ok' := Plus ok W.heap.size) (fun _ hk => .inl hk) (fun b hb hk => hk.elim (h.nb b hb).1 fun hk => by have := h.blt b hb; omega)
  intro j h1 h2
  obtain ⟨A, c, rt, T, hS, hT⟩ := this j h1 h2
  exact ⟨A, c, rt, T, hS, fun s => (hT s).trans ⟨.inl, fun h => h.elim id fun h => by omega⟩⟩
theorem NewI.done {n : Int × Int} (h : RelAt ok W br wd os R m bss) (hi : NewI ok W os m wd bss R (insRow (plainO wd) t n R) t os.length wr) (hR : RowsOk wd (insRow (plainO wd) t n R)) : RelAt (Plus ok W.heap.size) wr br wd os (insRow (plainO wd) t n R) m bss := by
  have hS : ∀ k, ok k → k < W.heap.size → wr.heap[k]? = W.heap[k]? := fun k hk' hlt => hi.kp.same k hlt (fun e => e.elim (fun e => h.nm (e ▸ hk')) (fun e => (h.nb k e).1 hk'))
  obtain ⟨Ao, co, As, cs, hp, h1, h2, h3, h4⟩ := h.hp
  refine ⟨⟨Ao, co, As, cs, (hi.kp.same br h.lt (fun e => e.elim h.nr.2 fun e => (h.nb br e).2.1 rfl)).trans hp, h1, h2, Kd.F_mono (Kd.F_step h3 hS) (fun _ hk => .inl hk), Kd.F_mono (Kd.F_step h4 hS) (fun _ hk => .inl hk)⟩, h.hos, hR, hi.map, h.len, ?_, h.nd, fun b hb => ⟨fun hk => hk.elim (h.nb b hb).1 fun hk => by have := h.blt b hb; omega, (h.nb b hb).2⟩, ⟨fun hk => hk.elim h.nr.1 fun hk => by have := h.lt; omega, h.nr.2⟩, fun hk => hk.elim h.nm fun hk => by have := h.map.lt; omega⟩
  intro j h1 h2
  obtain ⟨A, c, rt, T, hS, hT⟩ := hi.sets j h1 h2
  refine ⟨A, c, rt, T, hS, fun s => ?_⟩
  rw [hT s]
  show (s ∈ keys R ∨ (j < os.length ∧ s = t)) ↔ s ∈ keys (insRow (plainO wd) t n R)
  rw [insRow_keys, insO_mem]
  constructor
  · rintro (h | ⟨_, h⟩)
    · exact .inr h
    · exact .inl h
  · rintro (h | h)
    · exact .inr ⟨h1, h⟩
    · exact .inl h
theorem NewI.ins (h : RelAt ok W br wd os R m bss) (hi : NewI ok W os m wd bss R R' t i wr) (hlt : i < os.length) (ht : t.length = wd) (hle : R.length < 1024) (At : Option Addr) (ct : Nat) (st : Sl wr At ct t) :
    ∃ b, bss[i]? = some b ∧ Calls Tryz.prog 41 #[.pointer (some ⟨b, 0, none⟩), .slice At t.length ct] wr fun e w' => (∃ v u, e = .returned (.tuple #[.bool v, .int .i64 u])) ∧ KeptS (fun k => k ∈ bss) wr w' ∧ NewI ok W os m wd bss R R' t (i + 1) w' := by
  have hb : i < bss.length := by rw [h.len]; exact hlt
  obtain ⟨A, c, rt, T, hS, hT⟩ := hi.sets i hlt hb
  have ho := (h.hos.each _ (List.getElem_mem hlt))
  refine ⟨bss[i], List.getElem?_eq_getElem hb, (insert_calls wr bss[i] hS At ct t st (by have := ho.2; have := h.hos.w8; omega)).mono ?_⟩
  rintro e w' ⟨rt', T', rfl, hS', hio, hk⟩
  have hsz := hi.kp.size
  have hne : ∀ j (h2 : j < bss.length), j ≠ i → bss[j] ≠ bss[i] := fun j h2 hj e => hj ((List.getElem_inj h.nd).1 e)
  have hTl : T.io.length < 1024 := Nat.lt_of_le_of_lt (nodup_le _ (keys R) (up_nodup hS.up) (fun x hx => by
    rcases (hT x).1 hx with hx | hx
    · exact hx
    · omega)) (by rw [keys, List.length_map]; exact hle)
  have hkS : KeptS (fun k => k ∈ bss) wr w' := (KeptS.one hk).mono fun k e => e ▸ List.getElem_mem hb
  refine ⟨⟨_, _, rfl⟩, hkS, hi.kp.trans (hkS.mono fun k h => .inr h), hi.map.step (hk.g.block m hi.map.lt (fun e => (h.nb _ (List.getElem_mem hb)).2.2 (by injection e with e; exact e.symm))), ?_⟩
  intro j h1 h2
  by_cases hj : j = i
  · subst hj
    refine ⟨A, c, rt', T', hS'.mono (fun k hk => ?_) (fun hk => hk.elim (h.nb _ (List.getElem_mem hb)).1 fun hk => by have := h.blt _ (List.getElem_mem hb); omega), fun s => ?_⟩
    · rcases hk with hk | hk
      · exact hk
      · exact .inr (by omega)
    · rw [hio, insTo_set hTl (by rw [ht, ho.2]), hT s]
      constructor
      · rintro ((h | ⟨h, _⟩) | h)
        · exact .inl h
        · omega
        · exact .inr ⟨by omega, h⟩
      · rintro (h | ⟨_, h⟩)
        · exact .inl (.inl h)
        · exact .inr h
  · obtain ⟨A2, c2, rt2, T2, hS2, hT2⟩ := hi.sets j h1 h2
    refine ⟨A2, c2, rt2, T2, hS2.step (fun k hk' hlt' => hk.g.block k hlt' (fun e => ?_)) (hk.g.block _ hS2.lt (fun e => hne j h2 hj (by injection e))), fun s => (hT2 s).trans ?_⟩
    · injection e with e
      exact hS.nok (e ▸ hk')
    · constructor
      · rintro (h | ⟨h, h'⟩)
        · exact .inl h
        · exact .inr ⟨by omega, h'⟩
      · rintro (h | ⟨h, h'⟩)
        · exact .inl h
        · exact .inr ⟨by omega, h'⟩
end
set_option maxHeartbeats 8000000 in
set_option maxRecDepth 100000 in
theorem rput_full {ok : Nat → Prop} {W : World} {br wd : Nat} {os : List Tp} {R : List Row} {m : Nat} {bss : List Nat} (h : RelAt ok W br wd os R m bss) (x y : Nat) (At : Option Addr) (ct : Nat) (t : Tp) (st : Sl W At ct t) (hl : t.length = wd) (n1 n2 : Int) (hx : heightF x y = (n1, n2, true)) (ho : lookF R t = none) (hle : 1024 ≤ R.length) :
    Calls Tryz.prog 13 #[.pointer (some ⟨br, 0, none⟩), .complex .f64 x y, .slice At t.length ct] W (PutR ok W br wd os m bss (R, false, 18)) := by
  obtain ⟨Ao, co, As, cs, hp, _⟩ := h.hp
  have hr := rec_of hp
  have h0 := hr.c0
  have h1 := hr.c1
  have h4 := hr.c4
  have hd : ((t.length : Int) == (wd : Int)) = true := by simp [hl]
  have H := Aside0.mk h
  have HS := Aside0.mk st
  have HH := Aside0.mk (height_calls W x y)
  rw [hx] at HH
  have H8 := Aside0.mk (show t.length ≤ 8 by have := h.hos.w8; omega)
  obtain ⟨q, hq⟩ : ∃ q, q = R.length := ⟨_, rfl⟩
  have hqd : (1024 : Int) ≤ (q : Int) := by omega
  have HLn := Aside0.mk (fun (w' : World) (hs : Since W w') (ty : TypeId) => show (Builtin.len_ #[72] ty #[.map (some m)]).run Tryz.prog w' = .ok (.int .i64 (q : Int)) w' from by
    obtain ⟨es, clock, M, hm, hE, _, hl, _⟩ := (h.map.step (hs.b.block _ h.map.lt))
    have hes : es.size = R.length := by
      have := congrArg List.length hE
      simpa [hl] using this
    exact (run_len_map w' _ ty m es clock (by kernel_rfl) hm).trans (by rw [hes, hq]; rfl))
  have HL := Aside0.mk (fun (w' : World) (hs : Since W w') => (look_true (h.map.step (hs.b.block _ h.map.lt)) h.hos.w8 t hl).trans (by rw [ho]; rfl : _ = Result.ok (.tuple #[.complex .f64 0 0, .bool false]) w'))
  have HKP := Aside0.mk (fun (w' : World) (hs : Since W w') => And.intro (pw_cell_below hs.b h4) hs)
  clear h st hp hr hl hx ho hq hle
  go_enter Tryz.func13, Tryz.ntmps13
  go_wp2_with (first
    | (go_at_call 38; refine (rok_calls _ br h0).mono ?_; rintro e w' ⟨rfl, rfl⟩)
    | (go_at_call 17; refine HH.out.mono ?_; rintro e w' ⟨rfl, rfl⟩))
  go_region_held3 (fun w' => w'.cell? ⟨br, 4, none⟩ = some (.map (some m)) ∧ Since W w')
    (exact HKP.out _ (by ((try go_split_ands); first | exact (Since.refl _).drew | assumption | exact Since.trans (by assumption) (by assumption))))
    (first
      | (go_at_call 39; (refine (key_calls _ At ct t (Sl.below HS.out (by go_split_ands; exact Since.b (by assumption))) H8.out).mono ?_); rintro e w' ⟨rfl, hb5⟩; have hs5 := Since.mk hb5; have hlk := HL.out w' (Since.trans (by go_split_ands; assumption) hs5)))
  have hs9 : Since W w' := by go_split_ands; assumption
  have c9 := pw_cell_below hs9.b h4
  have hlen := HLn.out w' hs9
  have HS9 := Aside0.mk hs9
  clear hs9
  go_wp2
  go_ret2
  exact ⟨rfl, H.out.plus HS9.out.b, .below HS9.out.b⟩
set_option maxHeartbeats 8000000 in
set_option maxRecDepth 100000 in
theorem rput_new {ok : Nat → Prop} {W : World} {br wd : Nat} {os : List Tp} {R : List Row} {m : Nat} {bss : List Nat} (h : RelAt ok W br wd os R m bss) (x y : Nat) (At : Option Addr) (ct : Nat) (t : Tp) (hst : ∀ w', KeptS (fun k => k = m ∨ k ∈ bss) W w' → Sl w' At ct t) (hl : t.length = wd) (n1 n2 : Int) (hx : heightF x y = (n1, n2, true)) (ho : lookF R t = none) (hle : R.length < 1024) :
    Calls Tryz.prog 13 #[.pointer (some ⟨br, 0, none⟩), .complex .f64 x y, .slice At t.length ct] W (PutR ok W br wd os m bss (insRow (plainO wd) t (n1, n2) R, true, 0)) := by
  obtain ⟨Ao, co, As, cs, hp, hco, hcs, hFo, hFs⟩ := h.hp
  have hr := rec_of hp
  have h0 := hr.c0
  have h1 := hr.c1
  have h4 := hr.c4
  have hd : ((t.length : Int) == (wd : Int)) = true := by simp [hl]
  have H := Aside0.mk h
  have HS := Aside0.mk (hst W (.refl _ _))
  have HH := Aside0.mk (height_calls W x y)
  rw [hx] at HH
  have hrt := heightF_right (x := x) (y := y) (by rw [hx])
  rw [hx] at hrt
  have H8 := Aside0.mk (show t.length ≤ 8 by have := h.hos.w8; omega)
  obtain ⟨q, hq⟩ : ∃ q, q = R.length := ⟨_, rfl⟩
  have hqd : ¬ (1024 : Int) ≤ (q : Int) := by omega
  have HLn := Aside0.mk (fun (w' : World) (hs : Since W w') (ty : TypeId) => show (Builtin.len_ #[72] ty #[.map (some m)]).run Tryz.prog w' = .ok (.int .i64 (q : Int)) w' from by
    obtain ⟨es, clock, M, hm, hE, _, hl, _⟩ := (h.map.step (hs.b.block _ h.map.lt))
    have hes : es.size = R.length := by
      have := congrArg List.length hE
      simpa [hl] using this
    exact (run_len_map w' _ ty m es clock (by kernel_rfl) hm).trans (by rw [hes, hq]; rfl))
  have HL := Aside0.mk (fun (w' : World) (hs : Since W w') => (look_true (h.map.step (hs.b.block _ h.map.lt)) h.hos.w8 t hl).trans (by rw [ho]; rfl : _ = Result.ok (.tuple #[.complex .f64 0 0, .bool false]) w'))
  have HU := Aside0.mk (fun (w' : World) (hs : Since W w') => upd_at (h.map.step (hs.b.block _ h.map.lt)) h.hos.w8 t hl n1 n2)
  have HKP := Aside0.mk (fun (w' : World) (hs : Since W w') => And.intro (pw_cell_below hs.b h4) hs)
  have HKQ := Aside0.mk (fun (w' : World) (hs : KeptS (fun k => k = m) W w') => And.intro (show w'.cell? ⟨br, 4, none⟩ = some (.map (some m)) from (Tup.cell_of_heap ((hs.same br h.lt h.nr.2).trans hp) 4).trans rfl) hs)
  have HR := Aside0.mk (h.hR.ins h.hos.w8 (n := (n1, n2)) (lookF_none.1 ho) hl hle hrt.1 hrt.2)
  have HT := Aside0.mk (And.intro (lookF_none.1 ho) (And.intro hl hle))
  obtain ⟨on, hon⟩ : ∃ on, on = os.length := ⟨_, rfl⟩
  have HON := Aside0.mk hon
  have hon6 : (on : Int) ≤ 1000 := by have := h.hos.n; omega
  have HC3 := Aside0.mk (fun (w' : World) (hs : KeptS (fun k => k = m ∨ k ∈ bss) W w') => show w'.cell? ⟨br, 3, none⟩ = some (.slice As on cs) from (Tup.cell_of_heap ((hs.same br h.lt (fun e => e.elim h.nr.2 fun e => (h.nb br e).2.1 rfl)).trans hp) 3).trans (by rw [hon]; rfl))
  have HCs := Aside0.mk (fun (w' : World) (hs : KeptS (fun k => k = m ∨ k ∈ bss) W w') (i : Nat) (hi : i < on) => show ∃ ad b, As = some ad ∧ bss[i]? = some b ∧ w'.cell? (ad.add i) = some (.pointer (some ⟨b, 0, none⟩)) from by
    have hb : i < bss.length := by rw [h.len, ← hon]; exact hi
    obtain ⟨ad, e, hc⟩ := nod_at (Kd.F_now (Kd.F_step hFs (W1 := w') fun k hk' hlt => hs.same k hlt (fun e => e.elim (fun e => h.nm (e ▸ hk')) (fun e => (h.nb k e).1 hk')))) i hb
    exact ⟨ad, _, e, List.getElem?_eq_getElem hb, hc⟩)
  have HSl := Aside0.mk hst
  clear h hst hp hr hl hx ho hq hle hrt hFo hFs hco hcs hon
  go_enter Tryz.func13, Tryz.ntmps13
  go_wp2_with (first
    | (go_at_call 38; refine (rok_calls _ br h0).mono ?_; rintro e w' ⟨rfl, rfl⟩)
    | (go_at_call 17; refine HH.out.mono ?_; rintro e w' ⟨rfl, rfl⟩))
  go_region_held3 (fun w' => w'.cell? ⟨br, 4, none⟩ = some (.map (some m)) ∧ Since W w')
    (exact HKP.out _ (by ((try go_split_ands); first | exact (Since.refl _).drew | assumption | exact Since.trans (by assumption) (by assumption))))
    (first
      | (go_at_call 39; (refine (key_calls _ At ct t (Sl.below HS.out (by go_split_ands; exact Since.b (by assumption))) H8.out).mono ?_); rintro e w' ⟨rfl, hb5⟩; have hs5 := Since.mk hb5; have hlk := HL.out w' (Since.trans (by go_split_ands; assumption) hs5)))
  have hs9 : Since W w' := by go_split_ands; assumption
  have c9 := pw_cell_below hs9.b h4
  have hlen := HLn.out w' hs9
  have HS9 := Aside0.mk hs9
  have HKq := Aside0.mk (HKQ.out _ (KeptS.below (S := fun k => k = m) hs9.drew.b))
  clear hs9
  go_wp2
  clear hlen c9
  go_region_held3 (fun w2 => w2.cell? ⟨br, 4, none⟩ = some (.map (some m)) ∧ KeptS (fun k => k = m) W w2)
    (first | exact HKq.out | exact HKQ.out _ (KeptS.below (Since.b (by assumption))) | exact HKQ.out _ ((KeptS.below (Since.b (by assumption))).trans (KeptS.put _ _ rfl)))
    (first
      | (go_at_call 39; (refine (key_calls _ At ct t (Sl.below HS.out HS9.out.drew.b) H8.out).mono ?_); rintro e w3 ⟨rfl, hb5⟩; have hs5 : Since W w3 := HS9.out.drew.trans (Since.mk hb5); obtain ⟨ob, hup, hM⟩ := HU.out w3 hs5; have HS5 := Aside0.mk hs5; have HM := Aside0.mk hM; clear hM))
  have hkm : KeptS (fun k => k = m) W (w3.putObj m ob) := (KeptS.below HS5.out.b).trans (KeptS.put _ _ rfl)
  have HN0 := Aside0.mk (NewI.start (R' := insRow (plainO wd) t (n1, n2) R) (t := t) H.out hkm (HM.out.ins HT.out.1))
  obtain ⟨V, hV⟩ : ∃ V, V = w3.putObj m ob := ⟨_, rfl⟩
  rw [← hV] at HN0 ⊢
  have c3 := HC3.out V HN0.out.kp
  clear hkm hV
  go_wp2
  clear c3
  go_loopg [85] on (fun gk v85 wr => ∃ k : Nat, v85 = .int .i64 (k : Int) ∧ Aside0 (k + gk = on) ∧ Aside0 (NewI ok W os m wd bss R (insRow (plainO wd) t (n1, n2) R) t k wr))
  case atStart => exact ⟨0, rfl, ⟨by omega⟩, HN0⟩
  case round =>
    obtain ⟨k, rfl, HK, HI⟩ := hrel
    by_cases hk : k < on
    · have hkd : decide (k < on) = true := decide_eq_true hk
      have hki : (k : Int) < (on : Int) := by omega
      obtain ⟨ad, b, rfl, hbk, hcb⟩ := HCs.out wr HI.out.kp k hk
      have HIn := Aside0.mk (HI.out.ins H.out (by rw [← HON.out]; exact hk) HT.out.2.1 HT.out.2.2 At ct (HSl.out wr HI.out.kp))
      have HB := Aside0.mk hbk
      clear hbk
      go_wp2_with (go_at_call 41; obtain ⟨b', hb', hcl⟩ := HIn.out; obtain rfl : b = b' := Option.some.inj (HB.out.symm.trans hb'); (with_reducible refine hcl.mono ?_); rintro e w6 ⟨⟨v, u, rfl⟩, _, hN6⟩; have HN6 := Aside0.mk hN6; clear hN6 hcl hb')
      obtain ⟨g2, hg2⟩ : ∃ g2, g2 = gk - 1 := ⟨_, rfl⟩
      go_roundg g2
      case measure => have := HK.out; omega
      case rel => exact ⟨k + 1, by go_num, ⟨by have := HK.out; omega⟩, HN6⟩
    · have hkd : decide (k < on) = false := decide_eq_false hk
      have hki : ¬ (k : Int) < (on : Int) := by omega
      have hke : k = os.length := by have := HK.out; have := HON.out; omega
      subst hke
      go_wp2
      go_ret2
      exact ⟨rfl, HI.out.done H.out HR.out, HI.out.kp⟩
theorem rput_calls {ok : Nat → Prop} {W : World} {br wd : Nat} {os : List Tp} {R : List Row} {m : Nat} {bss : List Nat} (h : RelAt ok W br wd os R m bss) (x y : Nat) (At : Option Addr) (ct : Nat) (t : Tp) (hst : ∀ w', KeptS (fun k => k = m ∨ k ∈ bss) W w' → Sl w' At ct t) :
    Calls Tryz.prog 13 #[.pointer (some ⟨br, 0, none⟩), .complex .f64 x y, .slice At t.length ct] W (PutR ok W br wd os m bss (putC wd R t x y)) := by
  have st := hst W (.refl _ _)
  by_cases hl : t.length = wd
  · have hl' : ¬ t.length ≠ wd := fun h => h hl
    cases hx : (heightF x y).2.2 with
    | false =>
      rw [show putC wd R t x y = (R, false, 1) from by simp only [putC, if_neg hl', hx, Bool.false_eq_true, if_false]]
      exact rput_arg h x y At ct t hl hx
    | true =>
      obtain ⟨n1, n2, hn⟩ : ∃ n1 n2, heightF x y = (n1, n2, true) := ⟨(heightF x y).1, (heightF x y).2.1, by rw [← hx]⟩
      have hp : putC wd R t x y = (putTo wd R t (n1, n2), putAns wd R t) := by simp only [putC, if_neg hl', hn, if_true]
      cases ho : lookF R t with
      | some o =>
        obtain ⟨o1, o2⟩ := o
        have ha : putAns wd R t = (false, 0) := by simp only [putAns, if_neg hl', if_pos (mem_keys (lookF_mem ho))]
        cases hb : betterB n1 n2 o1 o2 with
        | false =>
          rw [hp, ha, show putTo wd R t (n1, n2) = R from by simp only [putTo, if_neg hl', ho, hb, Bool.false_eq_true, if_false]]
          exact rput_worse h x y At ct t st hl n1 n2 hn o1 o2 ho hb
        | true =>
          rw [hp, ha, show putTo wd R t (n1, n2) = updF R t (n1, n2) from by simp only [putTo, if_neg hl', ho, hb, if_true]]
          exact rput_better h x y At ct t st hl n1 n2 hn o1 o2 ho hb
      | none =>
        by_cases hle : 1024 ≤ R.length
        · rw [hp, show putAns wd R t = (false, 18) from by simp only [putAns, if_neg hl', if_neg (lookF_none.1 ho), if_pos hle], show putTo wd R t (n1, n2) = R from by simp only [putTo, if_neg hl', ho, if_pos hle]]
          exact rput_full h x y At ct t st hl n1 n2 hn ho hle
        · rw [hp, show putAns wd R t = (true, 0) from by simp only [putAns, if_neg hl', if_neg (lookF_none.1 ho), if_neg hle], show putTo wd R t (n1, n2) = insRow (plainO wd) t (n1, n2) R from by simp only [putTo, if_neg hl', ho, if_neg hle]]
          exact rput_new h x y At ct t hst hl n1 n2 hn ho (by omega)
  · rw [show putC wd R t x y = (R, false, 14) from by simp only [putC, ne_eq, hl, not_false_eq_true, if_true]]
    exact rput_width h x y At ct t hl
end Go.Proofs.YtcmllllbmgcnlaaGreat.Rl
end
