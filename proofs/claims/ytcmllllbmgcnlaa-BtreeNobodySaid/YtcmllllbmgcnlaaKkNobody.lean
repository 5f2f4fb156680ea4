/- A set that nobody made. BtreeNobody, walked. The statement BtreeNobody: whatever the input, the law answers true, and the input reads as it did. Conditions: none. -/
import Derived.Test.YtcmllllbmgcnlaaK6
import Derived.Test.YtcmllllbmgcnlaaRows
import Derived.WalkKit
import Derived.ProofKit
import Derived.OpenShut
import Derived.ShutString
import Derived.ChangeOld
import Derived.Below
import Derived.SizedLaws
import Derived.Test.YtcmllllbmgcnlaaWSized
namespace Go.Proofs.Ytcmllllbmgcnlaa.Tup
open Go.RowKit Go.Lib Go.Shelf Go.Proofs.Ytcmllllbmgcnlaa.F Go.Proofs.YtcmllllbmgcnlaaW.PrintWords Go.Proofs.YtcmllllbmgcnlaaW.PrintLast Go.Proofs.YtcmllllbmgcnlaaW.PrintMore
set_option linter.unusedVariables false
set_option linter.unusedSimpArgs false
attribute [local go_sem] Oper.semAt_some

theorem cloneIZ_calls (W : World) (A : Option Addr) (c : Nat) (t : Tp) (h : Sl W A c t) (hn : t.length * 8 ≤ 140737488351232) :
    Calls Try.prog 47 #[.slice A t.length c] W fun e w' => ∃ A' c', e = .returned (.slice A' t.length c') ∧ t.length ≤ c' ∧ Kd.F (Kd.int .i64) w' (fun k => W.heap.size ≤ k) A' t.length t ∧ Below W.heap.size W w' := by
  obtain ⟨us, hE, hl, hA, hc⟩ := rows_out rfl (Kd.C_F (Kd.heap_int .i64) h.C)
  refine (clI_calls W A t.length c us hl hA hc (els_one hE) (by omega) (by unfold maxLen; omega)).mono ?_
  rintro e w' ⟨v, rfl, ho, hb⟩
  obtain ⟨A', c', rfl, hle, hF⟩ := rows_in (d := Kd.int .i64) (ok := fun _ => False) rfl ho (hE.imp fun x u hx => fun W' _ => (show (Kd.int .i64).K W x [u] from Kd.FK_now hx)) rfl
  exact ⟨A', c', rfl, hle, Kd.F_mono hF (fun k hk => hk.elim False.elim (own_ge ho k)), hb⟩

set_option maxHeartbeats 2000000 in
set_option maxRecDepth 100000 in
theorem rangecZ_calls (W : World) (p : Option Addr) (k : Int) (At : Option Addr) (ct : Nat) (t : Tp) (st : Sl W At ct t) (hn : t.length * 8 ≤ 140737488351232) :
    Calls Try.prog 29 #[.pointer p, .int .i64 k, .slice At t.length ct] W (RangeC W (.pointer p) k t) := by
  have HST := Aside0.mk st
  have HN := Aside0.mk hn
  clear st hn
  have hb2 : Below W.heap.size W ((W.alloc (.cells #[.pointer p] 24)).alloc (.cells #[.int .i64 k] 3)) := below_alloc (below_alloc (Below.refl _ _) _) _
  have HB2 := Aside0.mk hb2
  have HS2 := Aside0.mk (Sl.below HST.out hb2)
  clear hb2
  go_enter Try.func29, Try.ntmps29
  go_wp2_with (go_at_call 47; ((with_reducible refine (cloneIZ_calls _ At ct t HS2.out HN.out).mono ?_)); rintro e w2 ⟨A2, c2, rfl, hc2, hF2, hb2⟩)
  go_ret
  have hlt : ((W.alloc (.cells #[.pointer p] 24)).alloc (.cells #[.int .i64 k] 3)).heap.size = W.heap.size + 2 := by simp
  have hbw : Below W.heap.size W w2 := below_then HB2.out HB2.out.size hb2
  have a3 := below_alloc (Below.refl w2.heap.size w2) (.cells #[.slice A2 t.length c2] 22)
  refine ⟨W.heap.size, w2.heap.size, W.heap.size + 1, A2, c2, rfl, ?_, ?_, ?_, hc2, Kd.F_mono (Kd.F_below hF2 a3) (fun j hj => by omega), below_then hbw hbw.size a3⟩
  · exact (cell_of_heap (blk a3 (blk hb2 (blk (below_alloc (Below.refl _ _) _) (heap_alloc_new W (.cells #[.pointer p] 24))))) 0).trans rfl
  · have := heap_alloc_new (W.alloc (.cells #[.pointer p] 24)) (.cells #[.int .i64 k] 3)
    rw [World.size_alloc] at this
    exact (cell_of_heap (blk a3 (blk hb2 this)) 0).trans rfl
  · exact (cell_of_heap (heap_alloc_new w2 (.cells #[.slice A2 t.length c2] 22)) 0).trans rfl

set_option maxHeartbeats 2000000 in
set_option maxRecDepth 100000 in
theorem fromcZ_calls (W : World) (p : Option Addr) (At : Option Addr) (ct : Nat) (t : Tp) (st : Sl W At ct t) (hn : t.length * 8 ≤ 140737488351232) :
    Calls Try.prog 30 #[.pointer p, .slice At t.length ct] W (FromC W (.pointer p) t) := by
  have HST := Aside0.mk st
  have HN := Aside0.mk hn
  clear st hn
  have hb2 : Below W.heap.size W (W.alloc (.cells #[.pointer p] 24)) := below_alloc (Below.refl _ _) _
  have HB2 := Aside0.mk hb2
  have HS2 := Aside0.mk (Sl.below HST.out hb2)
  clear hb2
  go_enter Try.func30, Try.ntmps30
  go_wp2_with (go_at_call 47; ((with_reducible refine (cloneIZ_calls _ At ct t HS2.out HN.out).mono ?_)); rintro e w2 ⟨A2, c2, rfl, hc2, hF2, hb2⟩)
  go_ret
  have hlt : (W.alloc (.cells #[.pointer p] 24)).heap.size = W.heap.size + 1 := by simp
  have hbw : Below W.heap.size W w2 := below_then HB2.out HB2.out.size hb2
  have a3 := below_alloc (Below.refl w2.heap.size w2) (.cells #[.slice A2 t.length c2] 22)
  refine ⟨W.heap.size, w2.heap.size, A2, c2, rfl, ?_, ?_, hc2, Kd.F_mono (Kd.F_below hF2 a3) (fun j hj => by omega), below_then hbw hbw.size a3⟩
  · exact (cell_of_heap (blk a3 (blk hb2 (heap_alloc_new W (.cells #[.pointer p] 24)))) 0).trans rfl
  · exact (cell_of_heap (heap_alloc_new w2 (.cells #[.slice A2 t.length c2] 22)) 0).trans rfl

/-- No set: nil, or a zero. -/
def NoSet (W : World) (p : Option Addr) : Prop := p = none ∨ ∃ b, p = some ⟨b, 0, none⟩ ∧ W.cell? ⟨b, 0, none⟩ = some (.bool false)
theorem NoSet.since {W W1 : World} {p : Option Addr} (h : NoSet W p) (hs : Since W W1) : NoSet W1 p := h.imp id fun ⟨b, e, hc⟩ => ⟨b, e, pw_cell_below hs.b hc⟩
set_option maxHeartbeats 1000000 in
set_option maxRecDepth 100000 in
theorem nok_calls (W : World) (p : Option Addr) (h : NoSet W p) : Calls Try.prog 48 #[.pointer p] W fun e w' => e = .returned (.bool false) ∧ W = w' := by
  rcases h with rfl | ⟨b, rfl, hc⟩
  · go_enter Try.func48, Try.ntmps48
    go_wp2
    go_ret
    exact ⟨rfl, rfl⟩
  · go_enter Try.func48, Try.ntmps48
    go_wp2
    go_ret
    exact ⟨rfl, rfl⟩
set_option maxHeartbeats 1000000 in
set_option maxRecDepth 100000 in
theorem nfits_calls (W : World) (p : Option Addr) (h : NoSet W p) (At : Option Addr) (n ct : Nat) : Calls Try.prog 49 #[.pointer p, .slice At n ct] W fun e w' => e = .returned (.bool false) ∧ W = w' := by
  go_enter Try.func49, Try.ntmps49
  go_wp2_with (go_at_call 48; refine (nok_calls _ p h).mono ?_; rintro e w' ⟨rfl, rfl⟩)
  go_ret
  exact ⟨rfl, rfl⟩
set_option maxHeartbeats 1000000 in
set_option maxRecDepth 100000 in
theorem nhas_calls (W : World) (p : Option Addr) (h : NoSet W p) (At : Option Addr) (n ct : Nat) : Calls Try.prog 23 #[.pointer p, .slice At n ct] W fun e w' => e = .returned (.bool false) ∧ W = w' := by
  go_enter Try.func23, Try.ntmps23
  go_wp2_with (go_at_call 49; refine (nfits_calls _ p h At n ct).mono ?_; rintro e w' ⟨rfl, rfl⟩)
  go_ret
  exact ⟨rfl, rfl⟩
set_option maxHeartbeats 1000000 in
set_option maxRecDepth 100000 in
theorem nlen_calls (W : World) (p : Option Addr) (h : NoSet W p) : Calls Try.prog 19 #[.pointer p] W fun e w' => e = .returned (.int .i64 0) ∧ W = w' := by
  go_enter Try.func19, Try.ntmps19
  go_wp2_with (go_at_call 48; refine (nok_calls _ p h).mono ?_; rintro e w' ⟨rfl, rfl⟩)
  go_ret
  exact ⟨rfl, rfl⟩
set_option maxHeartbeats 1000000 in
set_option maxRecDepth 100000 in
theorem norder_calls (W : World) (p : Option Addr) (h : NoSet W p) : Calls Try.prog 28 #[.pointer p] W fun e w' => e = .returned (.slice none 0 0) ∧ W = w' := by
  go_enter Try.func28, Try.ntmps28
  go_wp2_with (go_at_call 48; refine (nok_calls _ p h).mono ?_; rintro e w' ⟨rfl, rfl⟩)
  go_ret
  exact ⟨rfl, rfl⟩
set_option maxHeartbeats 1000000 in
set_option maxRecDepth 100000 in
theorem nclear_calls (W : World) (p : Option Addr) (h : NoSet W p) : Calls Try.prog 36 #[.pointer p] W fun e w' => e = .returned (.tuple #[]) ∧ W = w' := by
  go_enter Try.func36, Try.ntmps36
  go_wp2_with (go_at_call 48; refine (nok_calls _ p h).mono ?_; rintro e w' ⟨rfl, rfl⟩)
  go_end0
  exact ⟨rfl, rfl⟩
set_option maxHeartbeats 1000000 in
set_option maxRecDepth 100000 in
theorem nins_calls (W : World) (p : Option Addr) (h : NoSet W p) (At : Option Addr) (n ct : Nat) : Calls Try.prog 18 #[.pointer p, .slice At n ct] W fun e w' => e = .returned (.tuple #[.bool false, .int .i64 5]) ∧ W = w' := by
  go_enter Try.func18, Try.ntmps18
  go_wp2_with (go_at_call 48; refine (nok_calls _ p h).mono ?_; rintro e w' ⟨rfl, rfl⟩)
  go_ret2
  exact ⟨rfl, rfl⟩
set_option maxHeartbeats 1000000 in
set_option maxRecDepth 100000 in
theorem nswap1_calls (W : World) (p : Option Addr) (h : NoSet W p) (q : Option Addr) : Calls Try.prog 37 #[.pointer p, .pointer q] W fun e w' => e = .returned (.int .i64 5) ∧ W = w' := by
  go_enter Try.func37, Try.ntmps37
  go_wp2_with (go_at_call 48; refine (nok_calls _ p h).mono ?_; rintro e w' ⟨rfl, rfl⟩)
  go_ret
  exact ⟨rfl, rfl⟩
set_option maxHeartbeats 1000000 in
set_option maxRecDepth 100000 in
theorem nswap2_calls (W : World) (p : Option Addr) (h : NoSet W p) (b : Nat) (hb : W.cell? ⟨b, 0, none⟩ = some (.bool true)) : Calls Try.prog 37 #[.pointer (some ⟨b, 0, none⟩), .pointer p] W fun e w' => e = .returned (.int .i64 5) ∧ W = w' := by
  have h1 := ok_calls W b hb
  have h2 := nok_calls W p h
  clear hb h
  go_enter Try.func37, Try.ntmps37
  go_wp2_with (first
    | (go_at_call 48; refine h1.mono ?_; clear h1; rintro e w' ⟨rfl, rfl⟩)
    | (go_at_call 48; refine h2.mono ?_; clear h2; rintro e w' ⟨rfl, rfl⟩))
  go_ret
  exact ⟨rfl, rfl⟩
set_option maxHeartbeats 2000000 in
set_option maxRecDepth 100000 in
theorem nmerge1_calls (W : World) (p : Option Addr) (h : NoSet W p) (q : Option Addr) : Calls Try.prog 35 #[.pointer p, .pointer q] W fun e w' => e = .returned (.tuple #[.int .i64 0, .int .i64 5]) ∧ Below W.heap.size W w' := by
  have hk := nok_calls _ p (h.since ((((Since.refl W).alloc (.cells #[.pointer p] 24)).alloc (.cells #[.int .i64 0] 3)).alloc (.cells #[.int .i64 0] 25)))
  clear h
  go_enter Try.func35, Try.ntmps35
  go_wp2_with (go_at_call 48; refine hk.mono ?_; clear hk; rintro e w' ⟨rfl, rfl⟩)
  refine bodyPost_ret (v := .tuple #[.int .i64 0, .int .i64 5]) (by simp [results, Try.results35, go_sem]) rfl ⟨rfl, ?_⟩
  exact ((((Since.refl W).alloc _).alloc _).alloc _).b
set_option maxHeartbeats 2000000 in
set_option maxRecDepth 100000 in
theorem nmerge2_calls (W : World) (p : Option Addr) (h : NoSet W p) (b : Nat) (hb : W.cell? ⟨b, 0, none⟩ = some (.bool true)) : Calls Try.prog 35 #[.pointer (some ⟨b, 0, none⟩), .pointer p] W fun e w' => e = .returned (.tuple #[.int .i64 0, .int .i64 5]) ∧ Below W.heap.size W w' := by
  have hs := ((((Since.refl W).alloc (.cells #[.pointer (some ⟨b, 0, none⟩)] 24)).alloc (.cells #[.int .i64 0] 3)).alloc (.cells #[.int .i64 0] 25))
  have h2 := nok_calls _ p (h.since hs)
  have h1 := ok_calls _ b (pw_cell_below hs.b hb)
  clear h hb hs
  go_enter Try.func35, Try.ntmps35
  go_wp2_with (first
    | (go_at_call 48; refine h1.mono ?_; clear h1; rintro e w' ⟨rfl, rfl⟩)
    | (go_at_call 48; refine h2.mono ?_; clear h2; rintro e w' ⟨rfl, rfl⟩))
  refine bodyPost_ret (v := .tuple #[.int .i64 0, .int .i64 5]) (by simp [results, Try.results35, go_sem]) rfl ⟨rfl, ?_⟩
  exact ((((Since.refl W).alloc _).alloc _).alloc _).b

/-! ### what is gone over: nothing -/
set_option maxHeartbeats 1000000 in
set_option maxRecDepth 100000 in
theorem nall1_calls (W : World) (y : Value) (Bs : Nat) (p : Option Addr) (hB : W.cell? ⟨Bs, 0, none⟩ = some (.pointer p)) (h : NoSet W p) : Calls Try.prog 52 #[y, .pointer (some ⟨Bs, 0, none⟩)] W fun e w' => e = .returned (.tuple #[]) ∧ W = w' := by
  go_enter Try.func52, Try.ntmps52
  go_wp2_with (go_at_call 48; refine (nok_calls _ p h).mono ?_; rintro e w' ⟨rfl, rfl⟩)
  go_end0
  exact ⟨rfl, rfl⟩
set_option maxHeartbeats 1000000 in
set_option maxRecDepth 100000 in
theorem nfrom1_calls (W : World) (y : Value) (Bs Bk : Nat) (p : Option Addr) (hB : W.cell? ⟨Bs, 0, none⟩ = some (.pointer p)) (h : NoSet W p) (Ak : Option Addr) (n ck : Nat) (hk : W.cell? ⟨Bk, 0, none⟩ = some (.slice Ak n ck)) : Calls Try.prog 63 #[y, .pointer (some ⟨Bs, 0, none⟩), .pointer (some ⟨Bk, 0, none⟩)] W fun e w' => e = .returned (.tuple #[]) ∧ Since W w' := by
  go_enter Try.func63, Try.ntmps63
  go_wp2_with (go_at_call 49; refine (nfits_calls _ p h Ak n ck).mono ?_; rintro e w' ⟨rfl, rfl⟩)
  go_end0
  exact ⟨rfl, Since.refl _⟩
set_option maxHeartbeats 1000000 in
set_option maxRecDepth 100000 in
theorem nrange1_calls (W : World) (l : Nat) (Bs Bk Bi : Nat) (p : Option Addr) (hB : W.cell? ⟨Bs, 0, none⟩ = some (.pointer p)) (h : NoSet W p) (Ak : Option Addr) (n ck : Nat) (hk : W.cell? ⟨Bk, 0, none⟩ = some (.slice Ak n ck)) : Calls Try.prog 59 #[.func (.yield l) #[] #[], .pointer (some ⟨Bs, 0, none⟩), .pointer (some ⟨Bk, 0, none⟩), .pointer (some ⟨Bi, 0, none⟩)] W fun e w' => e = .returned (.tuple #[]) ∧ Since W w' := by
  have hs := (Since.refl W).alloc (.cells #[.func (.yield l) #[] #[]] 74)
  have hB' := pw_cell_below hs.b hB
  have hk' := pw_cell_below hs.b hk
  have h' := h.since hs
  clear hB hk h
  go_enter Try.func59, Try.ntmps59
  go_wp2_with (go_at_call 49; refine (nfits_calls _ p h' Ak n ck).mono ?_; rintro e w' ⟨rfl, rfl⟩)
  exact bodyPost_ret (v := .tuple #[]) (by simp [results, Try.results59, go_sem]) rfl ⟨rfl, hs⟩

theorem nall_seq (w : World) (Bs : Nat) (p : Option Addr) (hB : w.cell? ⟨Bs, 0, none⟩ = some (.pointer p)) (h : NoSet w p) (fp : Nat → Prop) : SeqR Fence.wide Try.prog 52 #[.pointer (some ⟨Bs, 0, none⟩)] fp [] w := by
  intro l J Jx W hW hJ hJx hR h0 n
  refine callsIn_wide.2 ((nall1_calls W _ Bs p (pw_cell_below hW hB) (h.since ⟨hW⟩)).mono ?_)
  rintro e w' ⟨rfl, rfl⟩
  exact ⟨⟨_, rfl⟩, _, Nat.le_refl _, .inl (h0 W (Below.refl _ _))⟩
theorem nfrom_seq (w : World) (Bs Bk : Nat) (p : Option Addr) (hB : w.cell? ⟨Bs, 0, none⟩ = some (.pointer p)) (h : NoSet w p) (Ak : Option Addr) (m ck : Nat) (hk : w.cell? ⟨Bk, 0, none⟩ = some (.slice Ak m ck)) (fp : Nat → Prop) : SeqR Fence.wide Try.prog 63 #[.pointer (some ⟨Bs, 0, none⟩), .pointer (some ⟨Bk, 0, none⟩)] fp [] w := by
  intro l J Jx W hW hJ hJx hR h0 n
  refine callsIn_wide.2 ((nfrom1_calls W _ Bs Bk p (pw_cell_below hW hB) (h.since ⟨hW⟩) Ak m ck (pw_cell_below hW hk)).mono ?_)
  rintro e w' ⟨rfl, hs⟩
  exact ⟨⟨_, rfl⟩, _, hs.b.size, .inl (h0 w' hs.b)⟩
theorem nrange_seq (w : World) (Bs Bk Bi : Nat) (p : Option Addr) (hB : w.cell? ⟨Bs, 0, none⟩ = some (.pointer p)) (h : NoSet w p) (Ak : Option Addr) (m ck : Nat) (hk : w.cell? ⟨Bk, 0, none⟩ = some (.slice Ak m ck)) (fp : Nat → Prop) : SeqR Fence.wide Try.prog 59 #[.pointer (some ⟨Bs, 0, none⟩), .pointer (some ⟨Bk, 0, none⟩), .pointer (some ⟨Bi, 0, none⟩)] fp [] w := by
  intro l J Jx W hW hJ hJx hR h0 n
  refine callsIn_wide.2 ((nrange1_calls W l Bs Bk Bi p (pw_cell_below hW hB) (h.since ⟨hW⟩) Ak m ck (pw_cell_below hW hk)).mono ?_)
  rintro e w' ⟨rfl, hs⟩
  exact ⟨⟨_, rfl⟩, _, hs.b.size, .inl (h0 w' hs.b)⟩
theorem nlistA_calls (W : World) (Bs : Nat) (p : Option Addr) (hB : W.cell? ⟨Bs, 0, none⟩ = some (.pointer p)) (h : NoSet W p) :
    Calls Try.prog 21 #[.func (.func 52) #[] #[.pointer (some ⟨Bs, 0, none⟩)]] W (ListR W []) := by
  have hb : Since W (W.alloc (.cells #[.slice none 0 0] 23)) := (Since.refl W).alloc _
  exact callsIn_wide (n := 3) |>.1 (list_in Fence.wide rfl (fun _ => trivial) rfl 3 W 52 _ listA_enters (fun k => False) (fun k hk => hk.elim) [] (by simp) (nall_seq _ Bs p (pw_cell_below hb.b hB) (h.since hb) _))
theorem nlistF_calls (W : World) (Bs Bk : Nat) (p : Option Addr) (hB : W.cell? ⟨Bs, 0, none⟩ = some (.pointer p)) (h : NoSet W p) (Ak : Option Addr) (m ck : Nat) (hk : W.cell? ⟨Bk, 0, none⟩ = some (.slice Ak m ck)) :
    Calls Try.prog 21 #[.func (.func 63) #[] #[.pointer (some ⟨Bs, 0, none⟩), .pointer (some ⟨Bk, 0, none⟩)]] W (ListR W []) := by
  have hb : Since W (W.alloc (.cells #[.slice none 0 0] 23)) := (Since.refl W).alloc _
  exact callsIn_wide (n := 3) |>.1 (list_in Fence.wide rfl (fun _ => trivial) rfl 3 W 63 _ listF_enters (fun k => False) (fun k hk => hk.elim) [] (by simp) (nfrom_seq _ Bs Bk p (pw_cell_below hb.b hB) (h.since hb) Ak m ck (pw_cell_below hb.b hk) _))
theorem nlistR_calls (W : World) (Bs Bk Bi : Nat) (p : Option Addr) (hB : W.cell? ⟨Bs, 0, none⟩ = some (.pointer p)) (h : NoSet W p) (Ak : Option Addr) (m ck : Nat) (hk : W.cell? ⟨Bk, 0, none⟩ = some (.slice Ak m ck)) :
    Calls Try.prog 21 #[.func (.func 59) #[] #[.pointer (some ⟨Bs, 0, none⟩), .pointer (some ⟨Bk, 0, none⟩), .pointer (some ⟨Bi, 0, none⟩)]] W (ListR W []) := by
  have hb : Since W (W.alloc (.cells #[.slice none 0 0] 23)) := (Since.refl W).alloc _
  exact callsIn_wide (n := 3) |>.1 (list_in Fence.wide rfl (fun _ => trivial) rfl 3 W 59 _ listR_enters (fun k => False) (fun k hk => hk.elim) [] (by simp) (nrange_seq _ Bs Bk Bi p (pw_cell_below hb.b hB) (h.since hb) Ak m ck (pw_cell_below hb.b hk) _))

end Go.Proofs.Ytcmllllbmgcnlaa.Tup

namespace Go.Proofs.Ytcmllllbmgcnlaa.Tup
open Go.RowKit Go.Lib Go.Shelf Go.Proofs.Ytcmllllbmgcnlaa.F Go.Proofs.YtcmllllbmgcnlaaW.PrintWords Go.Proofs.YtcmllllbmgcnlaaW.PrintLast Go.Proofs.YtcmllllbmgcnlaaW.PrintMore
set_option linter.unusedVariables false
set_option linter.unusedSimpArgs false

theorem rt0 : Rt [0] := by decide
set_option maxHeartbeats 4000000 in
set_option maxRecDepth 100000 in
theorem nobody_main (W : World) (A0 : Option Addr) (c0 : Nat) (t : Tp) (h0 : Sl W A0 c0 t) (hz : t.length * 8 ≤ 140737488351232) (k : Int) :
    Calls Try.prog 9 #[.slice A0 t.length c0, .int .i64 k] W fun e w' => e = .returned (.bool true) ∧ Below W.heap.size W w' := by
  have hl0 : Sl (W.alloc (.cells #[.int .i64 0] 3)) (some ⟨W.heap.size, 0, none⟩) 1 [0] := ⟨Kd.F_now (sl_heap (l := [0]) (heap_alloc_new W _) rfl (by simp)), Nat.le_refl _⟩
  have hN1 := new_yes (W.alloc (.cells #[.int .i64 0] 3)) _ 1 [0] hl0 rt0
  have H0 := Aside0.mk h0
  have HZ := Aside0.mk hz
  clear h0 hz hl0
  go_enter Try.func9, Try.ntmps9
  go_wp2_with (first
    | (go_at_call 16; refine hN1.mono ?_; clear hN1; rintro e w1 ⟨hb1, bs, Ab, cb, rt1, rfl, hbs1, hS1⟩; have HB1 := Aside0.mk (((Since.refl W).alloc (.cells #[.int .i64 0] 3)).step hb1); have HS1 := Aside0.mk hS1; clear hb1 hbs1 hS1))
  obtain ⟨wB, hwB⟩ : ∃ wB, wB = (w1.alloc (.cells #[.bool false, .slice none 0 0, .pointer none, .int .i64 0] 65)).alloc (.cells #[.pointer none, .pointer (some ⟨w1.heap.size, 0, none⟩)] 24) := ⟨_, rfl⟩
  have hs1 : Since w1 wB := by rw [hwB]; exact ((Since.refl w1).alloc _).alloc _
  have hz1 : (w1.alloc (.cells #[.bool false, .slice none 0 0, .pointer none, .int .i64 0] 65)).heap.size = w1.heap.size + 1 := by simp
  have hbz : wB.cell? ⟨w1.heap.size, 0, none⟩ = some (.bool false) := by
    rw [hwB]
    exact pw_cell_below (below_alloc (Below.refl _ _) _) ((cell_of_heap (heap_alloc_new w1 (.cells #[.bool false, .slice none 0 0, .pointer none, .int .i64 0] 65)) 0).trans rfl)
  have hg := heap_alloc_new (w1.alloc (.cells #[.bool false, .slice none 0 0, .pointer none, .int .i64 0] 65)) (.cells #[.pointer none, .pointer (some ⟨w1.heap.size, 0, none⟩)] 24)
  rw [hz1, ← hwB] at hg
  have HP := Aside0.mk (show ∀ i, i < 2 → ∃ p, wB.cell? ⟨w1.heap.size + 1, i, none⟩ = some (.pointer p) ∧ NoSet wB p from fun i hi => by
    rcases (show i = 0 ∨ i = 1 by omega) with rfl | rfl
    · exact ⟨none, (cell_of_heap hg 0).trans rfl, .inl rfl⟩
    · exact ⟨_, (cell_of_heap hg 1).trans rfl, .inr ⟨_, rfl, hbz⟩⟩)
  have HGB := Aside0.mk (show wB.cell? ⟨bs, 0, none⟩ = some (.bool true) from pw_cell_below hs1.b HS1.out.c0)
  have HSB := Aside0.mk (HB1.out.trans hs1)
  rw [← hwB]
  obtain ⟨g, hgg⟩ : ∃ g, g = w1.heap.size + 1 := ⟨_, rfl⟩
  rw [← hgg] at HP ⊢
  clear hwB hs1 hz1 hbz hg hgg HS1 HB1
  go_loopg [24] 2 (fun gk v24 w' => ∃ i, v24 = .int .i64 ((i : Nat) : Int) ∧ Aside0 (i + gk = 2) ∧ Aside0 (Since wB w'))
  case atStart => exact ⟨0, rfl, ⟨rfl⟩, ⟨Since.refl _⟩⟩
  case round =>
    obtain ⟨i, rfl, HI, HS⟩ := hrel
    by_cases hi : i < 2
    · have hii : (i : Int) < 2 := by omega
      obtain ⟨p, hcp, hnp⟩ := HP.out i hi
      have hcell := pw_cell_below HS.out.b hcp
      have HNP := Aside0.mk hnp
      have hI := nins_calls wr p (hnp.since HS.out) A0 t.length c0
      have hM1 := nmerge1_calls wr p (hnp.since HS.out) (some ⟨bs, 0, none⟩)
      clear hcp hnp
      go_wp2_with (first
        | (go_at_call 18; refine hI.mono ?_; clear hI; rintro e w2 ⟨rfl, rfl⟩)
        | (go_at_call 35; refine hM1.mono ?_; clear hM1; rintro e w3 ⟨rfl, hb3⟩; have S3 := Aside0.mk (HS.out.step hb3); have hM2 := nmerge2_calls w3 p (HNP.out.since S3.out) bs (pw_cell_below S3.out.b HGB.out); clear hb3)
        | (go_at_call 35; refine hM2.mono ?_; clear hM2; rintro e w4 ⟨rfl, hb4⟩; have S4 := Aside0.mk (S3.out.step hb4); have hCl := nclear_calls w4 p (HNP.out.since S4.out); have hHa := nhas_calls w4 p (HNP.out.since S4.out) A0 t.length c0; have hLe := nlen_calls w4 p (HNP.out.since S4.out); have hOr := norder_calls w4 p (HNP.out.since S4.out); have hSw1 := nswap1_calls w4 p (HNP.out.since S4.out) (some ⟨bs, 0, none⟩); have hSw2 := nswap2_calls w4 p (HNP.out.since S4.out) bs (pw_cell_below S4.out.b HGB.out); have hAl := all_calls w4 (.pointer p) ⟨_, rfl⟩; clear hb4)
        | (go_at_call 36; refine hCl.mono ?_; clear hCl; rintro e w5 ⟨rfl, rfl⟩)
        | (go_at_call 23; refine hHa.mono ?_; clear hHa; rintro e w5 ⟨rfl, rfl⟩)
        | (go_at_call 19; refine hLe.mono ?_; clear hLe; rintro e w5 ⟨rfl, rfl⟩)
        | (go_at_call 28; refine hOr.mono ?_; clear hOr; rintro e w5 ⟨rfl, rfl⟩)
        | (go_at_call 37; refine hSw1.mono ?_; clear hSw1; rintro e w5 ⟨rfl, rfl⟩)
        | (go_at_call 37; refine hSw2.mono ?_; clear hSw2; rintro e w5 ⟨rfl, rfl⟩)
        | (go_at_call 22; refine hAl.mono ?_; clear hAl; rintro e w5 ⟨rfl, rfl⟩; have S5 := Aside0.mk (S4.out.alloc (.cells #[.pointer p] 24)); have hLa := nlistA_calls (w4.alloc (.cells #[.pointer p] 24)) w4.heap.size p ((cell_of_heap (heap_alloc_new w4 (.cells #[.pointer p] 24)) 0).trans rfl) (HNP.out.since S5.out))
        | (go_at_call 21; refine hLa.mono ?_; clear hLa; rintro e w6 ⟨A6, c6, rfl, _, _, hb6⟩; have S6 := Aside0.mk (S5.out.step hb6); have hRg := rangecZ_calls w6 p k A0 c0 t ((HSB.out.trans S6.out).sl H0.out) HZ.out; clear hb6)
        | (go_at_call 29; refine hRg.mono ?_; clear hRg; rintro e w7 ⟨Bs, Bk, Bi, Ak, ck, rfl, hBs, hBi, hBk, hck, hkey, hb7⟩; have S7 := Aside0.mk (S6.out.step hb7); have hLr := nlistR_calls w7 Bs Bk Bi p hBs (HNP.out.since S7.out) Ak _ ck hBk; clear hBs hBi hBk hck hkey hb7)
        | (go_at_call 21; refine hLr.mono ?_; clear hLr; rintro e w8 ⟨A8, c8, rfl, _, _, hb8⟩; have S8 := Aside0.mk (S7.out.step hb8); have hFr := fromcZ_calls w8 p A0 c0 t ((HSB.out.trans S8.out).sl H0.out) HZ.out; clear hb8)
        | (go_at_call 30; refine hFr.mono ?_; clear hFr; rintro e w9 ⟨Bs, Bk, Ak, ck, rfl, hBs, hBk, hck, hkey, hb9⟩; have S9 := Aside0.mk (S8.out.step hb9); have hLf := nlistF_calls w9 Bs Bk p hBs (HNP.out.since S9.out) Ak _ ck hBk; clear hBs hBk hck hkey hb9)
        | (go_at_call 21; refine hLf.mono ?_; clear hLf; rintro e w10 ⟨A10, c10, rfl, _, _, hb10⟩; have S10 := Aside0.mk (S9.out.step hb10); clear hb10))
      obtain ⟨k2, hk2⟩ : ∃ k2, k2 = gk - 1 := ⟨_, rfl⟩
      go_roundg k2
      case measure => have := HI.out; omega
      case rel => exact ⟨i + 1, by go_num, ⟨by have := HI.out; omega⟩, S10⟩
    · go_wp2_with (go_at_call 17; refine (alive_calls wr).mono ?_; rintro e w3 ⟨rfl, hb3⟩; have HS3 := Aside0.mk (HS.out.step hb3); clear hb3)
      go_ret
      exact ⟨rfl, (HSB.out.trans HS3.out).b⟩
theorem nobody_law_calls {W : World} (A0 : Option Addr) (c0 : Nat) (t : Tp) (h0 : Sl W A0 c0 t) (hw : ∀ x ∈ t, (Lit.int .i64 x).wf = true) (hy : t.length * 8 ≤ 140737488351232) (k : Int) (hk : (Lit.int .i64 k).wf = true) (W' : World) (e : W' = W) :
    Calls Try.prog 9 #[.slice A0 t.length c0, .int .i64 k] W' fun e w' => e = .returned (.bool true) ∧ Below W.heap.size W w' := by
  subst e
  exact nobody_main W' A0 c0 t h0 hy k

end Go.Proofs.Ytcmllllbmgcnlaa.Tup

namespace Go.Proofs.Ytcmllllbmgcnlaa.btreeNobody
open Go.ChangeShapes Go.WideShapes Go.ChangeAt Go.RowKit Go.Proofs.YtcmllllbmgcnlaaW Go.Proofs.Ytcmllllbmgcnlaa.Tup
open Go.ChangeMaps (open_string shut_string)
set_option linter.unusedVariables false
theorem own : ownKnob Try.prog.godebug = none := by kernel_rfl
theorem laidOut : laidOutB Try.prog = true := by kernel_rfl
set_option maxRecDepth 100000 in
theorem lifted (os : Os) (started : os.Started) (H : Type) (enc : TypeId × Value → H) :
    ReturnsInHanded {} Try.checked os 9 .any (Rows.btreeNobodySpec.pre6 enc Try.prog Try.f9 Rows.btreeNobodyRow.domain false) (Rows.btreeNobodySpec.post enc Try.prog Try.f9 false true false false) := by
  refine returnsInHanded_of_change_sized (C := Try.checked) own started (by kernel_rfl) Try.func9
    (ChangeSpec.witness6 (enc := enc) (C := Try.checked) false ⟨#[], #[.slice none 0 0, .int .i64 0], []⟩ 8 (by kernel_rfl) (by kernel_rfl) (by kernel_rfl) (by kernel_rfl)) ?_
  intro W base args ds gs before hval0 hW hcnd hsz0 _
  have hsz : (DataW.weightsEach Try.prog (Try.f9.params.toList ++ Rows.btreeNobodySpec.plain.varTypes Try.prog) (ds ++ gs)).all (· ≤ reachBytes) = true := hsz0
  have hval : ∀ (j : Nat) t v, Try.f9.params[j]? = some t → args[j]? = some v → Value.okWide Try.prog W .any base t v := hval0
  have hW' := hW
  obtain ⟨p, q, hA0, hV, rfl, hfz, hnd⟩ := hW
  have hA : DataW.TrodAll enc Try.prog W 0 (fun _ => true) true Try.f9.params.toList args.toList ds p := hA0
  rw [Try.params9] at hA hval hsz
  obtain ⟨v0, vs0, d0, ds0, p0, q0, hargs, rfl, rfl, h0, r0⟩ := trodAll_cons hA
  obtain ⟨v1, vs1, d1, ds1, p1, q1, rfl, rfl, rfl, h1, r1⟩ := trodAll_cons r0
  obtain ⟨rfl, rfl, rfl⟩ := trodAll_nil r1
  obtain rfl : args = #[v0, v1] := by cases args; simp_all
  obtain ⟨rfl, rfl⟩ := trodVars_none hV
  have k0 := h0
  have lt0 : ∀ x ∈ p0, x.block < W.heap.size := by obtain ⟨m, hm⟩ := k0; exact DataW.trod_lt m _ _ _ hm
  obtain ⟨A0, c0, l0, rfl, s0, f0⟩ := open_sl (hval 0 22 v0 rfl rfl) h0
  have y0 : l0.length * 8 ≤ 140737488351232 := PrintWords.sized_ints hsz (j := 0) (t := 22) rfl rfl Try.underlying22 Try.underlying3 (by kernel_rfl) (by kernel_rfl) k0
  have k1 := h1
  have lt1 : ∀ x ∈ p1, x.block < W.heap.size := by obtain ⟨m, hm⟩ := k1; exact DataW.trod_lt m _ _ _ hm
  obtain ⟨n1, rfl, rfl, rfl, w1⟩ := open_int Try.underlying3 (hval 1 3 v1 rfl rfl) h1
  clear hA0 hval0 hsz0 hsz
  refine (nobody_law_calls A0 c0 l0 s0 f0 y0 n1 w1 W rfl).mono fun e W' ⟨he, bel⟩ => ?_
  subst he
  exact ⟨_, rfl, _, _, _, [], _, [], hW', trodAll_mk1 (shut_bool Try.underlying4 _), (trodAll_cons_mk (Below.trod laidOut (by kernel_rfl) (of_decide_eq_true (by kernel_rfl)) k0 bel lt0) (trodAll_cons_mk (shut_int Try.underlying3 w1) trodAll_mk0)), rfl, bel.frame _, fun h => by cases h⟩
theorem over : Rows.btreeNobodyRow.holds Try.pinned (OpenSpec.ofChange Rows.btreeNobodySpec) :=
  OpenClaim.holds_of_wide 9 Try.f9 rfl rfl rfl rfl rfl rfl rfl ⟨rfl, rfl, rfl, rfl, rfl⟩ rfl rfl rfl rfl rfl (by kernel_rfl) Try.func9 (by kernel_rfl)
    (of_decide_eq_true (by kernel_rfl)) (by unfold Func.isWrapper; first | (rw [if_pos (by decide +kernel)]; kernel_rfl) | (rw [if_neg (by decide +kernel)]; exact ⟨rfl, rfl⟩))
    (fun os started H enc _ => lifted os started H enc)
end Go.Proofs.Ytcmllllbmgcnlaa.btreeNobody
namespace Go.Proofs.Ytcmllllbmgcnlaa
/-- The statement, under a short name, for the claim. -/
theorem btreeNobody_holds : Rows.BtreeNobodySaid := btreeNobody.over
#print axioms btreeNobody_holds
end Go.Proofs.Ytcmllllbmgcnlaa
