/- A relation that nobody made: what every method answers; the law RelNobody, walked. -/
import Derived.Test.YtcmllllbmgcnlaaGreatK31
import Derived.Test.YtcmllllbmgcnlaaGreatK27
namespace Go.Proofs.YtcmllllbmgcnlaaGreat.Rl
open Go.RowKit Go.Lib Go.Shelf Go.Proofs.YtcmllllbmgcnlaaGreat.G Go.Proofs.YtcmllllbmgcnlaaGreat.Tup Go.Proofs.YtcmllllbmgcnlaaGreatW.PrintWords Go.Proofs.YtcmllllbmgcnlaaGreatW.PrintLast Go.Proofs.YtcmllllbmgcnlaaGreatW.PrintMore
open Go.Proofs.YtcmllllbmgcnlaaGreat.Ch (rwrongS pickS pickS_some)
set_option linter.unusedVariables false
set_option linter.unusedSimpArgs false
attribute [local go_sem] Oper.semAt_some

set_option maxHeartbeats 1000000 in
set_option maxRecDepth 100000 in
theorem rall_calls (W : World) (p : Value) (hp : ∃ a, p = .pointer a) : Calls Tryz.prog 25 #[p] W fun e w' => e = .returned (.func (.func 54) #[] #[.pointer (some ⟨W.heap.size, 0, none⟩)]) ∧ w' = W.alloc (.cells #[p] 24) := by
  obtain ⟨a, rfl⟩ := hp
  go_enter Tryz.func25, Tryz.ntmps25
  go_wp2
  go_ret
  exact ⟨rfl, rfl⟩

theorem rall_enters : ∀ args w, (callFunc 54 args).run Tryz.prog w = .ok (.enter 54 args) w := enters_of Tryz.func54 (by kernel_rfl) rfl
/-- No relation: nil, or a zero. -/
def NoRel (W : World) (p : Option Addr) : Prop := p = none ∨ ∃ b, p = some ⟨b, 0, none⟩ ∧ W.cell? ⟨b, 0, none⟩ = some (.bool false)
theorem NoRel.since {W W1 : World} {p : Option Addr} (h : NoRel W p) (hs : Since W W1) : NoRel W1 p := h.imp id fun ⟨b, e, hc⟩ => ⟨b, e, pw_cell_below hs.b hc⟩
set_option maxHeartbeats 1000000 in
set_option maxRecDepth 100000 in
theorem nrok_calls (W : World) (p : Option Addr) (h : NoRel W p) : Calls Tryz.prog 38 #[.pointer p] W fun e w' => e = .returned (.bool false) ∧ W = w' := by
  rcases h with rfl | ⟨b, rfl, hc⟩
  · go_enter Tryz.func38, Tryz.ntmps38
    go_wp2
    go_ret
    exact ⟨rfl, rfl⟩
  · go_enter Tryz.func38, Tryz.ntmps38
    go_wp2
    go_ret
    exact ⟨rfl, rfl⟩
set_option maxHeartbeats 1000000 in
set_option maxRecDepth 100000 in
theorem nrput_calls (W : World) (p : Option Addr) (h : NoRel W p) (x y : Nat) (At : Option Addr) (n ct : Nat) : Calls Tryz.prog 13 #[.pointer p, .complex .f64 x y, .slice At n ct] W fun e w' => e = .returned (.tuple #[.bool false, .int .i64 5]) ∧ W = w' := by
  go_enter Tryz.func13, Tryz.ntmps13
  go_wp2_with (go_at_call 38; refine (nrok_calls _ p h).mono ?_; rintro e w' ⟨rfl, rfl⟩)
  go_ret2
  exact ⟨rfl, rfl⟩
set_option maxHeartbeats 1000000 in
set_option maxRecDepth 100000 in
theorem nrnote_calls (W : World) (p : Option Addr) (h : NoRel W p) (At : Option Addr) (n ct : Nat) : Calls Tryz.prog 24 #[.pointer p, .slice At n ct] W fun e w' => e = .returned (.tuple #[.complex .f64 0 0, .bool false]) ∧ W = w' := by
  go_enter Tryz.func24, Tryz.ntmps24
  go_wp2_with (go_at_call 38; refine (nrok_calls _ p h).mono ?_; rintro e w' ⟨rfl, rfl⟩)
  go_ret2
  exact ⟨rfl, rfl⟩
set_option maxHeartbeats 1000000 in
set_option maxRecDepth 100000 in
theorem nrhas_calls (W : World) (p : Option Addr) (h : NoRel W p) (At : Option Addr) (n ct : Nat) : Calls Tryz.prog 16 #[.pointer p, .slice At n ct] W fun e w' => e = .returned (.bool false) ∧ W = w' := by
  go_enter Tryz.func16, Tryz.ntmps16
  go_wp2_with (go_at_call 24; refine (nrnote_calls _ p h At n ct).mono ?_; rintro e w' ⟨rfl, rfl⟩)
  go_ret
  exact ⟨rfl, rfl⟩
set_option maxHeartbeats 1000000 in
set_option maxRecDepth 100000 in
theorem nrlen_calls (W : World) (p : Option Addr) (h : NoRel W p) : Calls Tryz.prog 15 #[.pointer p] W fun e w' => e = .returned (.int .i64 0) ∧ W = w' := by
  go_enter Tryz.func15, Tryz.ntmps15
  go_wp2_with (go_at_call 38; refine (nrok_calls _ p h).mono ?_; rintro e w' ⟨rfl, rfl⟩)
  go_ret
  exact ⟨rfl, rfl⟩
set_option maxHeartbeats 1000000 in
set_option maxRecDepth 100000 in
theorem nrwidth_calls (W : World) (p : Option Addr) (h : NoRel W p) : Calls Tryz.prog 31 #[.pointer p] W fun e w' => e = .returned (.int .i64 0) ∧ W = w' := by
  go_enter Tryz.func31, Tryz.ntmps31
  go_wp2_with (go_at_call 38; refine (nrok_calls _ p h).mono ?_; rintro e w' ⟨rfl, rfl⟩)
  go_ret
  exact ⟨rfl, rfl⟩
set_option maxHeartbeats 1000000 in
set_option maxRecDepth 100000 in
theorem nrclear_calls (W : World) (p : Option Addr) (h : NoRel W p) : Calls Tryz.prog 30 #[.pointer p] W fun e w' => e = .returned (.tuple #[]) ∧ W = w' := by
  go_enter Tryz.func30, Tryz.ntmps30
  go_wp2_with (go_at_call 38; refine (nrok_calls _ p h).mono ?_; rintro e w' ⟨rfl, rfl⟩)
  go_end0
  exact ⟨rfl, rfl⟩
set_option maxHeartbeats 1000000 in
set_option maxRecDepth 100000 in
theorem nrswap1_calls (W : World) (p : Option Addr) (h : NoRel W p) (q : Option Addr) : Calls Tryz.prog 32 #[.pointer p, .pointer q] W fun e w' => e = .returned (.int .i64 5) ∧ W = w' := by
  go_enter Tryz.func32, Tryz.ntmps32
  go_wp2_with (go_at_call 38; refine (nrok_calls _ p h).mono ?_; rintro e w' ⟨rfl, rfl⟩)
  go_ret
  exact ⟨rfl, rfl⟩
set_option maxHeartbeats 1000000 in
set_option maxRecDepth 100000 in
theorem nrswap2_calls (W : World) (p : Option Addr) (h : NoRel W p) (b : Nat) (hb : W.cell? ⟨b, 0, none⟩ = some (.bool true)) : Calls Tryz.prog 32 #[.pointer (some ⟨b, 0, none⟩), .pointer p] W fun e w' => e = .returned (.int .i64 5) ∧ W = w' := by
  have h1 := rok_calls W b hb
  have h2 := nrok_calls W p h
  clear hb h
  go_enter Tryz.func32, Tryz.ntmps32
  go_wp2_with (first
    | (go_at_call 38; refine h1.mono ?_; clear h1; rintro e w' ⟨rfl, rfl⟩)
    | (go_at_call 38; refine h2.mono ?_; clear h2; rintro e w' ⟨rfl, rfl⟩))
  go_ret
  exact ⟨rfl, rfl⟩
set_option maxHeartbeats 2000000 in
set_option maxRecDepth 100000 in
theorem nrmerge1_calls (W : World) (p : Option Addr) (h : NoRel W p) (q : Option Addr) : Calls Tryz.prog 29 #[.pointer p, .pointer q] W fun e w' => e = .returned (.tuple #[.int .i64 0, .int .i64 5]) ∧ Below W.heap.size W w' := by
  have hk := nrok_calls _ p (h.since ((((Since.refl W).alloc (.cells #[.pointer p] 24)).alloc (.cells #[.int .i64 0] 3)).alloc (.cells #[.int .i64 0] 25)))
  clear h
  go_enter Tryz.func29, Tryz.ntmps29
  go_wp2_with (go_at_call 38; refine hk.mono ?_; clear hk; rintro e w' ⟨rfl, rfl⟩)
  refine bodyPost_ret (v := .tuple #[.int .i64 0, .int .i64 5]) (by simp [results, Tryz.results29, go_sem]) rfl ⟨rfl, ?_⟩
  exact ((((Since.refl W).alloc _).alloc _).alloc _).b
set_option maxHeartbeats 2000000 in
set_option maxRecDepth 100000 in
theorem nrmerge2_calls (W : World) (p : Option Addr) (h : NoRel W p) (b : Nat) (hb : W.cell? ⟨b, 0, none⟩ = some (.bool true)) : Calls Tryz.prog 29 #[.pointer (some ⟨b, 0, none⟩), .pointer p] W fun e w' => e = .returned (.tuple #[.int .i64 0, .int .i64 5]) ∧ Below W.heap.size W w' := by
  have hs := ((((Since.refl W).alloc (.cells #[.pointer (some ⟨b, 0, none⟩)] 24)).alloc (.cells #[.int .i64 0] 3)).alloc (.cells #[.int .i64 0] 25))
  have h2 := nrok_calls _ p (h.since hs)
  have h1 := rok_calls _ b (pw_cell_below hs.b hb)
  clear h hb hs
  go_enter Tryz.func29, Tryz.ntmps29
  go_wp2_with (first
    | (go_at_call 38; refine h1.mono ?_; clear h1; rintro e w' ⟨rfl, rfl⟩)
    | (go_at_call 38; refine h2.mono ?_; clear h2; rintro e w' ⟨rfl, rfl⟩))
  refine bodyPost_ret (v := .tuple #[.int .i64 0, .int .i64 5]) (by simp [results, Tryz.results29, go_sem]) rfl ⟨rfl, ?_⟩
  exact ((((Since.refl W).alloc _).alloc _).alloc _).b

/-! ### what is gone over: nothing -/
set_option maxHeartbeats 1000000 in
set_option maxRecDepth 100000 in
theorem nrall1_calls (W : World) (y : Value) (Bs : Nat) (p : Option Addr) (hB : W.cell? ⟨Bs, 0, none⟩ = some (.pointer p)) (h : NoRel W p) : Calls Tryz.prog 54 #[y, .pointer (some ⟨Bs, 0, none⟩)] W fun e w' => e = .returned (.tuple #[]) ∧ W = w' := by
  go_enter Tryz.func54, Tryz.ntmps54
  go_wp2_with (go_at_call 38; refine (nrok_calls _ p h).mono ?_; rintro e w' ⟨rfl, rfl⟩)
  go_end0
  exact ⟨rfl, rfl⟩
set_option maxHeartbeats 4000000 in
set_option maxRecDepth 100000 in
theorem nrfind1_calls (W : World) (l : Nat) (Bs Bk Bi : Nat) (p : Option Addr) (hB : W.cell? ⟨Bs, 0, none⟩ = some (.pointer p)) (h : NoRel W p) (k : Int) (hi : W.cell? ⟨Bi, 0, none⟩ = some (.int .i64 k)) (Ak : Option Addr) (n ck : Nat) (hk : W.cell? ⟨Bk, 0, none⟩ = some (.slice Ak n ck)) : Calls Tryz.prog 45 #[.func (.yield l) #[] #[], .pointer (some ⟨Bs, 0, none⟩), .pointer (some ⟨Bk, 0, none⟩), .pointer (some ⟨Bi, 0, none⟩)] W fun e w' => e = .returned (.tuple #[]) ∧ Since W w' := by
  go_enter Tryz.func45, Tryz.ntmps45
  go_wp2_with fail
  go_quiet (first | (go_at_call 38; refine (nrok_calls _ p (by assumption)).mono ?_; rintro e w' ⟨rfl, rfl⟩; first | exact ⟨rfl, 0, rfl⟩ | exact ⟨rfl, _, rfl⟩))
  go_wp2
  refine bodyPost_ret (results_none rfl _ _ _) rfl ⟨rfl, ?_⟩
  repeat (first | exact Since.refl _ | refine Since.drewN ?_ _ | refine Since.drew ?_)

theorem nrall_seq (w : World) (Bs : Nat) (p : Option Addr) (hB : w.cell? ⟨Bs, 0, none⟩ = some (.pointer p)) (h : NoRel w p) : Seq2R Fence.wide Tryz.prog 54 #[.pointer (some ⟨Bs, 0, none⟩)] [] w := by
  intro l J Jx W hW hJ hJx hR h0 n
  refine callsIn_wide.2 ((nrall1_calls W _ Bs p (pw_cell_below hW hB) (h.since ⟨hW⟩)).mono ?_)
  rintro e w' ⟨rfl, rfl⟩
  exact ⟨⟨_, rfl⟩, _, Nat.le_refl _, .inl (h0 W (Below.refl _ _))⟩
theorem nrfind_seq (w : World) (Bs Bk Bi : Nat) (p : Option Addr) (hB : w.cell? ⟨Bs, 0, none⟩ = some (.pointer p)) (h : NoRel w p) (k : Int) (hi : w.cell? ⟨Bi, 0, none⟩ = some (.int .i64 k)) (Ak : Option Addr) (m ck : Nat) (hk : w.cell? ⟨Bk, 0, none⟩ = some (.slice Ak m ck)) : Seq2R Fence.wide Tryz.prog 45 #[.pointer (some ⟨Bs, 0, none⟩), .pointer (some ⟨Bk, 0, none⟩), .pointer (some ⟨Bi, 0, none⟩)] [] w := by
  intro l J Jx W hW hJ hJx hR h0 n
  refine callsIn_wide.2 ((nrfind1_calls W l Bs Bk Bi p (pw_cell_below hW hB) (h.since ⟨hW⟩) k (pw_cell_below hW hi) Ak m ck (pw_cell_below hW hk)).mono ?_)
  rintro e w' ⟨rfl, hs⟩
  exact ⟨⟨_, rfl⟩, _, hs.b.size, .inl (h0 w' hs.b)⟩
theorem nwalkedA_calls (W : World) (Bs : Nat) (p : Option Addr) (hB : W.cell? ⟨Bs, 0, none⟩ = some (.pointer p)) (h : NoRel W p) :
    Calls Tryz.prog 28 #[.func (.func 54) #[] #[.pointer (some ⟨Bs, 0, none⟩)], .slice none 0 0] W fun e w' => e = .returned (.bool true) ∧ Below W.heap.size W w' :=
  walked_calls W 54 _ rall_enters [] (by simp) (by simp) (by simp) (nrall_seq W Bs p hB h) none 0 [] (Kd.C_nil KR W)
theorem nwalkedF_calls (W : World) (Bs Bk Bi : Nat) (p : Option Addr) (hB : W.cell? ⟨Bs, 0, none⟩ = some (.pointer p)) (h : NoRel W p) (k : Int) (hi : W.cell? ⟨Bi, 0, none⟩ = some (.int .i64 k)) (Ak : Option Addr) (m ck : Nat) (hk : W.cell? ⟨Bk, 0, none⟩ = some (.slice Ak m ck)) :
    Calls Tryz.prog 28 #[.func (.func 45) #[] #[.pointer (some ⟨Bs, 0, none⟩), .pointer (some ⟨Bk, 0, none⟩), .pointer (some ⟨Bi, 0, none⟩)], .slice none 0 0] W fun e w' => e = .returned (.bool true) ∧ Below W.heap.size W w' :=
  walked_calls W 45 _ find_enters [] (by simp) (by simp) (by simp) (nrfind_seq W Bs Bk Bi p hB h k hi Ak m ck hk) none 0 [] (Kd.C_nil KR W)

set_option maxHeartbeats 8000000 in
set_option maxRecDepth 100000 in
theorem relNobody_calls {W0 : World} (A0 : Option Addr) (c0 : Nat) (t : List Int) (h0 : Sl W0 A0 c0 t) (hf : ∀ x ∈ t, (Lit.int .i64 x).wf = true) (hz : t.length * 8 ≤ 140737488351232) (k : Int) (hkw : (Lit.int .i64 k).wf = true) (W : World) (e : W = W0) :
    Calls Tryz.prog 9 #[.slice A0 t.length c0, .int .i64 k] W fun e w' => e = .returned (.bool true) ∧ Below W0.heap.size W0 w' := by
  subst e
  have sn : Sl W none 0 [] := ⟨Kd.C_nil _ _, Nat.le_refl _⟩
  have HN := Aside0.mk (rnew_yes W (1 : Nat) none 0 [] sn (by decide))
  have z0 : FloatKind.f64.format.order 0 0 = some .eq := by decide
  have H0 := Aside0.mk h0
  have HZ := Aside0.mk hz
  clear h0 hz sn hf hkw
  go_enter Tryz.func9, Tryz.ntmps9
  go_wp2_with (first
    | (go_at_call 11; refine HN.out.mono ?_; clear HN; rintro e w1 hm; obtain ⟨bs, os, m, bss, rfl, ok, hA⟩ := made_i hm; have HA1 := Aside0.mk hA; clear hm hA))
  obtain ⟨wB, hwB⟩ : ∃ wB, wB = (w1.alloc (.cells #[.bool false, .int .i64 0, .slice none 0 0, .slice none 0 0, .map none] 74)).alloc (.cells #[.pointer none, .pointer (some ⟨w1.heap.size, 0, none⟩)] 24) := ⟨_, rfl⟩
  have hs1 : Since w1 wB := by rw [hwB]; exact ((Since.refl w1).alloc _).alloc _
  have hz1 : (w1.alloc (.cells #[.bool false, .int .i64 0, .slice none 0 0, .slice none 0 0, .map none] 74)).heap.size = w1.heap.size + 1 := by simp
  have hbz : wB.cell? ⟨w1.heap.size, 0, none⟩ = some (.bool false) := by
    rw [hwB]
    exact pw_cell_below (below_alloc (Below.refl _ _) _) ((Tup.cell_of_heap (heap_alloc_new w1 (.cells #[.bool false, .int .i64 0, .slice none 0 0, .slice none 0 0, .map none] 74)) 0).trans rfl)
  have hg := heap_alloc_new (w1.alloc (.cells #[.bool false, .int .i64 0, .slice none 0 0, .slice none 0 0, .map none] 74)) (.cells #[.pointer none, .pointer (some ⟨w1.heap.size, 0, none⟩)] 24)
  rw [hz1, ← hwB] at hg
  have HP := Aside0.mk (show ∀ i, i < 2 → ∃ p, wB.cell? ⟨w1.heap.size + 1, i, none⟩ = some (.pointer p) ∧ NoRel wB p from fun i hi => by
    rcases (show i = 0 ∨ i = 1 by omega) with rfl | rfl
    · exact ⟨none, (Tup.cell_of_heap hg 0).trans rfl, .inl rfl⟩
    · exact ⟨_, (Tup.cell_of_heap hg 1).trans rfl, .inr ⟨_, rfl, hbz⟩⟩)
  have HGB := Aside0.mk (show wB.cell? ⟨bs, 0, none⟩ = some (.bool true) from by
    obtain ⟨Ao, co, As, cs, hp, _⟩ := HA1.out.rel.hp
    exact pw_cell_below hs1.b (rec_of hp).c0)
  have HSB := Aside0.mk ((Since.mk HA1.out.b).trans hs1)
  rw [← hwB]
  obtain ⟨g, hgg⟩ : ∃ g, g = w1.heap.size + 1 := ⟨_, rfl⟩
  rw [← hgg] at HP ⊢
  clear hwB hs1 hz1 hbz hg hgg HA1
  go_loopg [25] 2 (fun gk v25 w' => ∃ i, v25 = .int .i64 ((i : Nat) : Int) ∧ Aside0 (i + gk = 2) ∧ Aside0 (Since wB w'))
  case atStart => exact ⟨0, rfl, ⟨rfl⟩, ⟨Since.refl _⟩⟩
  case round =>
    obtain ⟨i, rfl, HI, HS⟩ := hrel
    by_cases hi : i < 2
    · have hii : (i : Int) < 2 := by omega
      obtain ⟨p, hcp, hnp⟩ := HP.out i hi
      have hcell := pw_cell_below HS.out.b hcp
      have HNP := Aside0.mk hnp
      have hI := nrput_calls wr p (hnp.since HS.out) 0 0 A0 t.length c0
      have hNo := nrnote_calls wr p (hnp.since HS.out) A0 t.length c0
      have hM1 := nrmerge1_calls wr p (hnp.since HS.out) (some ⟨bs, 0, none⟩)
      clear hcp hnp
      go_wp2_with (first
        | (go_at_call 13; refine hI.mono ?_; clear hI; rintro e w2 ⟨rfl, rfl⟩)
        | (go_at_call 24; refine hNo.mono ?_; clear hNo; rintro e w2 ⟨rfl, rfl⟩)
        | (go_at_call 29; refine hM1.mono ?_; clear hM1; rintro e w3 ⟨rfl, hb3⟩; have S3 := Aside0.mk (HS.out.step hb3); have hM2 := nrmerge2_calls w3 p (HNP.out.since S3.out) bs (pw_cell_below S3.out.b HGB.out); clear hb3)
        | (go_at_call 29; refine hM2.mono ?_; clear hM2; rintro e w4 ⟨rfl, hb4⟩; have S4 := Aside0.mk (S3.out.step hb4); have hCl := nrclear_calls w4 p (HNP.out.since S4.out); have hHa := nrhas_calls w4 p (HNP.out.since S4.out) A0 t.length c0; have hLe := nrlen_calls w4 p (HNP.out.since S4.out); have hWi := nrwidth_calls w4 p (HNP.out.since S4.out); have hSw1 := nrswap1_calls w4 p (HNP.out.since S4.out) (some ⟨bs, 0, none⟩); have hSw2 := nrswap2_calls w4 p (HNP.out.since S4.out) bs (pw_cell_below S4.out.b HGB.out); have hAl := rall_calls w4 (.pointer p) ⟨_, rfl⟩; clear hb4)
        | (go_at_call 30; refine hCl.mono ?_; clear hCl; rintro e w5 ⟨rfl, rfl⟩)
        | (go_at_call 16; refine hHa.mono ?_; clear hHa; rintro e w5 ⟨rfl, rfl⟩)
        | (go_at_call 15; refine hLe.mono ?_; clear hLe; rintro e w5 ⟨rfl, rfl⟩)
        | (go_at_call 31; refine hWi.mono ?_; clear hWi; rintro e w5 ⟨rfl, rfl⟩)
        | (go_at_call 32; refine hSw1.mono ?_; clear hSw1; rintro e w5 ⟨rfl, rfl⟩)
        | (go_at_call 32; refine hSw2.mono ?_; clear hSw2; rintro e w5 ⟨rfl, rfl⟩)
        | (go_at_call 25; refine hAl.mono ?_; clear hAl; rintro e w5 ⟨rfl, rfl⟩; have S5 := Aside0.mk (S4.out.alloc (.cells #[.pointer p] 24)); have hLa := nwalkedA_calls (w4.alloc (.cells #[.pointer p] 24)) w4.heap.size p ((Tup.cell_of_heap (heap_alloc_new w4 (.cells #[.pointer p] 24)) 0).trans rfl) (HNP.out.since S5.out))
        | (go_at_call 28; refine hLa.mono ?_; clear hLa; rintro e w6 ⟨rfl, hb6⟩; have S6 := Aside0.mk (S5.out.step hb6); have hRg := rfind_calls w6 p k A0 c0 t (H0.out.below (HSB.out.trans S6.out).b) HZ.out; clear hb6)
        | (go_at_call 22; refine hRg.mono ?_; clear hRg; rintro e w7 ⟨Bs, Bk, Bi, Ak, ck, rfl, hBs, hBi, hBk, hck, hkey, hb7⟩; have S7 := Aside0.mk (S6.out.step hb7); have hLr := nwalkedF_calls w7 Bs Bk Bi p hBs (HNP.out.since S7.out) k hBi Ak _ ck hBk; clear hBs hBi hBk hck hkey hb7)
        | (go_at_call 28; refine hLr.mono ?_; clear hLr; rintro e w8 ⟨rfl, hb8⟩; have S8 := Aside0.mk (S7.out.step hb8); clear hb8))
      obtain ⟨k2, hk2⟩ : ∃ k2, k2 = gk - 1 := ⟨_, rfl⟩
      go_roundg k2
      case measure => have := HI.out; omega
      case rel => exact ⟨i + 1, by go_num, ⟨by have := HI.out; omega⟩, S8⟩
    · go_wp2_with (go_at_call 12; refine (alive_calls wr).mono ?_; rintro e w3 ⟨rfl, hb3⟩; have HS3 := Aside0.mk (HS.out.step hb3); clear hb3)
      go_ret
      exact ⟨rfl, (HSB.out.trans HS3.out).b⟩

end Go.Proofs.YtcmllllbmgcnlaaGreat.Rl
