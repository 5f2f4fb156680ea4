/- A program taken: the walk. -/
import Derived.Test.YtdecgknnbegobaaK4
import Derived.Deep.AppendLies
namespace Go.Proofs.Ytdecgknnbegobaa.Cd
open Go.RowKit Go.Lib Go.Maps Go.Proofs.Ytdecgknnbegobaa.D Go.Proofs.YtdecgknnbegobaaW.PrintWords Go.Proofs.YtdecgknnbegobaaW.PrintLast Go.Proofs.YtdecgknnbegobaaW.PrintMore
set_option linter.unusedVariables false
set_option linter.unusedSimpArgs false

/-- What a call of code answers. -/
def CodeEnd (W0 w : World) (br : Nat) (A : Option Addr) (c : Nat) (B : List Int) (r : Rs (List Int × Int × List S39)) (e : Ending) (w' : World) : Prop :=
  Kept w w' (fun k => k = br) ∧ match r with
  | .ok (ws, rg, xs) q => Rdr W0 w' br A c B q ∧ ∃ vW vI, e = .returned (.agg #[vW, .int .i64 rg, vI]) ∧ w'.ownsRow w.heap.size 3 1 vW ws.length (ws.map (Value.int .i64)) ∧ w'.ownsRow w.heap.size 39 5 vI xs.length (xs.flatMap cells39)
  | .bad q => e = .panicked [wrongE] ∧ Rdr W0 w' br A c B q
theorem CodeEnd.bad {W0 w w' : World} {br : Nat} {A : Option Addr} {c : Nat} {B : List Int} {r : Rs (List Int × Int × List S39)} {q : Nat} (hr : r = .bad q) (hk : Kept w w' (fun k => k = br)) (h : Rdr W0 w' br A c B q) : CodeEnd W0 w br A c B r (.panicked [wrongE]) w' := by
  subst hr; exact ⟨hk, rfl, h⟩
/-- The rest of the reading, by stages. -/
def st6 (ws : List Int) (rg : Int) (k : Nat) (acc : List S39) (B : List Int) (q : Nat) : Rs (List Int × Int × List S39) := (rdRep rdI k acc B q).bind fun xs p => .ok (ws, rg, xs) p
def st4 (B : List Int) (ws : List Int) (rg : Int) (q : Nat) : Rs (List Int × Int × List S39) := (rdNum 4096 B q).bind fun n p => st6 ws rg n [] B p
def st3 (B : List Int) (ws : List Int) (q : Nat) : Rs (List Int × Int × List S39) := (rdNum 256 B q).bind fun rg p => st4 B ws (rg : Int) p
def st2 (B : List Int) (m : Nat) (ws : List Int) (q : Nat) : Rs (List Int × Int × List S39) := (rdRep rdWs m ws B q).bind fun ws p => st3 B ws p
def st1 (B : List Int) (q : Nat) : Rs (List Int × Int × List S39) := (rdNum 128 B q).bind fun m p => st2 B m [] p
def st0 (B : List Int) (l : List Int) (q : Nat) : Rs (List Int × Int × List S39) := (rdV l B q).bind fun _ p => st1 B p
theorem rdP_st (B : List Int) (p : Nat) : rdP B p = st0 B [86, 66, 49] p := rfl
theorem bind_bind {α β γ : Type} (r : Rs α) (f : α → Nat → Rs β) (g : β → Nat → Rs γ) : (r.bind f).bind g = r.bind fun a p => (f a p).bind g := by cases r <;> rfl
theorem st0_nil (B : List Int) (q : Nat) : st0 B [] q = st1 B q := rfl
theorem st0_ok {B : List Int} {x : Int} {l : List Int} {q a p : _} (h : rd1 B (fun c => decide (c = x)) q = .ok a p) : st0 B (x :: l) q = st0 B l p := by unfold st0; rw [rdV, h]; rfl
theorem st0_bad {B : List Int} {x : Int} {l : List Int} {q p : Nat} (h : rd1 B (fun c => decide (c = x)) q = .bad p) : st0 B (x :: l) q = .bad p := by unfold st0; rw [rdV, h]; rfl
theorem st1_ok {B : List Int} {q m p : Nat} (h : rdNum 128 B q = .ok m p) : st1 B q = st2 B m [] p := by unfold st1; rw [h]; rfl
theorem st1_bad {B : List Int} {q p : Nat} (h : rdNum 128 B q = .bad p) : st1 B q = .bad p := by unfold st1; rw [h]; rfl
theorem st2_nil (B ws : List Int) (q : Nat) : st2 B 0 ws q = st3 B ws q := rfl
theorem st2_ok {B ws : List Int} {k q m p : Nat} (h : rdNum 8 B q = .ok m p) : st2 B (k + 1) ws q = st2 B k (ws ++ [(m : Int)]) p := by unfold st2; rw [rdRep, rdWs, h]; rfl
theorem st2_bad {B ws : List Int} {k q p : Nat} (h : rdNum 8 B q = .bad p) : st2 B (k + 1) ws q = .bad p := by unfold st2; rw [rdRep, rdWs, h]; rfl
theorem st3_ok {B ws : List Int} {q m p : Nat} (h : rdNum 256 B q = .ok m p) : st3 B ws q = st4 B ws (m : Int) p := by unfold st3; rw [h]; rfl
theorem st3_bad {B ws : List Int} {q p : Nat} (h : rdNum 256 B q = .bad p) : st3 B ws q = .bad p := by unfold st3; rw [h]; rfl
theorem st4_ok {B ws : List Int} {rg : Int} {q m p : Nat} (h : rdNum 4096 B q = .ok m p) : st4 B ws rg q = st6 ws rg m [] B p := by unfold st4; rw [h]; rfl
theorem st4_bad {B ws : List Int} {rg : Int} {q p : Nat} (h : rdNum 4096 B q = .bad p) : st4 B ws rg q = .bad p := by unfold st4; rw [h]; rfl
theorem st6_nil (B ws : List Int) (rg : Int) (acc : List S39) (q : Nat) : st6 ws rg 0 acc B q = .ok (ws, rg, acc) q := rfl
/-- An instruction, by stages. -/
theorem st6_op {B ws : List Int} {rg : Int} {acc : List S39} {k q p : Nat} {i : Int} (h : rd1 B (fun c => decide (c < 19)) q = .ok i p) : st6 ws rg (k + 1) acc B q = (rdS B p).bind fun a p => (rdS B p).bind fun b p => (rdS B p).bind fun c p => (rdNum 65536 B p).bind fun n p => (rdT n B p).bind fun s p => st6 ws rg k (acc ++ [S39.mk (fnF i) a b c s]) B p := by
  unfold st6
  rw [rdRep, rdI, h]
  simp only [bind_bind]
  simp only [Rs.bind]
theorem st6_opbad {B ws : List Int} {rg : Int} {acc : List S39} {k q p : Nat} (h : rd1 B (fun c => decide (c < 19)) q = .bad p) : st6 ws rg (k + 1) acc B q = .bad p := by unfold st6; rw [rdRep, rdI, h]; rfl
theorem bind_on {α β : Type} {r : Rs α} {a : α} {p : Nat} {f : α → Nat → Rs β} (h : r = .ok a p) : r.bind f = f a p := by rw [h]; rfl
theorem bind_off {α β : Type} {r : Rs α} {p : Nat} {f : α → Nat → Rs β} (h : r = .bad p) : r.bind f = .bad p := by rw [h]; rfl

theorem rdNum_calls' {W0 w : World} {br : Nat} {A : Option Addr} {c : Nat} {B : List Int} (p : Nat) (hB : Bs W0 A c B) (h255 : ∀ x ∈ B, 0 ≤ x ∧ x ≤ 255) (h : Rdr W0 w br A c B p) (most : Nat) (mi : Int) (hmi : (most : Int) = mi) (hm : most < 2 ^ 64) :
    Calls Try.prog 29 #[.pointer (some ⟨br, 0, none⟩), .int .u64 mi] w (RdEnd W0 w br A c B (fun n : Nat => .int .u64 (n : Int)) (rdNum most B p)) := by
  rw [← hmi]
  exact rdNum_calls p hB h255 h most hm

set_option maxHeartbeats 40000000 in
set_option maxRecDepth 100000 in
theorem code_calls {W0 w : World} {br : Nat} {A : Option Addr} {c : Nat} {B : List Int} (p : Nat) (hB : Bs W0 A c B) (h255 : ∀ x ∈ B, 0 ≤ x ∧ x ≤ 255) (h : Rdr W0 w br A c B p) :
    Calls Try.prog 17 #[.pointer (some ⟨br, 0, none⟩)] w (CodeEnd W0 w br A c B (rdP B p)) := by
  have hmf : ∀ (fn : Fn) (first cap : Array Value) (w : World), (Instr.makeFunc fn first cap).run Try.prog w = .ok (.func fn first cap) w := fun _ _ _ _ => rfl
  have hcv : (convert 26 26 (.slice (some ⟨w.heap.size + 1, 0, none⟩) 3 3)).run Try.prog ((w.alloc (.cells #[.slice none 0 0, .int .i64 0, .slice none 0 0] 25)).alloc (.cells #[.int .u8 86, .int .u8 66, .int .u8 49] 5)) = .ok (.slice (some ⟨w.heap.size + 1, 0, none⟩) 3 3) ((w.alloc (.cells #[.slice none 0 0, .int .i64 0, .slice none 0 0] 25)).alloc (.cells #[.int .u8 86, .int .u8 66, .int .u8 49] 5 (3, 4))) :=
    Go.Joins.run_convert_bytes_const_at (P := Try.prog) (w.alloc (.cells #[.slice none 0 0, .int .i64 0, .slice none 0 0] 25)) 26 5 #[.int .u8 86, .int .u8 66, .int .u8 49] 3 3 (w.heap.size + 1) (by simp) Try.underlying26 Try.underlying5
  obtain ⟨V, hV⟩ : ∃ V, V = (w.alloc (.cells #[.slice none 0 0, .int .i64 0, .slice none 0 0] 25)).alloc (.cells #[.int .u8 86, .int .u8 66, .int .u8 49] 5 (3, 4)) := ⟨_, rfl⟩
  have HV := Aside0.mk hV
  have SV := Aside0.mk (show Since w V by rw [hV]; exact ((Since.refl w).alloc _).alloc _)
  have B2 := Aside0.mk (show V.heap[w.heap.size]? = some (.cells #[.slice none 0 0, .int .i64 0, .slice none 0 0] 25 (0, 0)) by rw [hV]; exact (Below.heap_alloc _ _ _ (by simp)).trans (heap_alloc_new w _))
  have BL := Aside0.mk (show V.heap[w.heap.size + 1]? = some (.cells #[.int .u8 86, .int .u8 66, .int .u8 49] 5 (3, 4)) by
    have := heap_alloc_new (w.alloc (.cells #[.slice none 0 0, .int .i64 0, .slice none 0 0] 25)) (.cells #[.int .u8 86, .int .u8 66, .int .u8 49] 5 (3, 4))
    rw [World.size_alloc] at this
    rw [hV]; exact this)
  clear hV
  obtain ⟨res, hres⟩ : ∃ r, r = rdP B p := ⟨_, rfl⟩
  rw [← hres]
  have HB := Aside0.mk hB
  have H255 := Aside0.mk h255
  have HR := Aside0.mk h
  have HRES := Aside0.mk (hres.trans (rdP_st B p))
  have hbr : br < w.heap.size := (Array.getElem?_eq_some_iff.1 h.blk).1
  have HBR := Aside0.mk hbr
  clear hres hB h255 h
  go_enter Try.func17, Try.ntmps17
  go_wp2_with fail
  rw [← HV.out]
  clear hcv
  go_loopg [12] 3 (fun gk v12 wr => ∃ i : Nat, v12 = .int .i64 (i : Int) ∧ Aside0 (i + gk = 3) ∧ Aside0 (∃ q, Kept V wr (fun k => k = br) ∧ Rdr W0 wr br A c B q ∧ res = st0 B (([86, 66, 49] : List Int).drop i) q))
  case atStart => exact ⟨0, rfl, ⟨rfl⟩, ⟨p, Kept.refl _ _, HR.out.go SV.out, HRES.out⟩⟩
  case round =>
    obtain ⟨i, rfl, HI, HS⟩ := hrel
    obtain ⟨q, hK, hR, hr⟩ := HS.out
    have HRS := Aside0.mk hr
    have HK := Aside0.mk hK
    have hbl : wr.heap[w.heap.size + 1]? = some (.cells #[.int .u8 86, .int .u8 66, .int .u8 49] 5 (3, 4)) := Kept.block hK BL.out (by omega)
    have l0 : wr.cell? ⟨w.heap.size + 1, 0, none⟩ = some (.int .u8 86) := by simp [World.cell?, hbl]
    have l1 : wr.cell? ⟨w.heap.size + 1, 1, none⟩ = some (.int .u8 66) := by simp [World.cell?, hbl]
    have l2 : wr.cell? ⟨w.heap.size + 1, 2, none⟩ = some (.int .u8 49) := by simp [World.cell?, hbl]
    clear hr hK hbl
    rcases (by have := HI.out; omega : i = 0 ∨ i = 1 ∨ i = 2 ∨ i = 3) with rfl | rfl | rfl | rfl
    · obtain ⟨w3, hw3⟩ : ∃ w3, w3 = wr.alloc (.cells #[.int .u8 86] 5) := ⟨_, rfl⟩
      have hs3 : Since wr w3 := by rw [hw3]; exact (Since.refl wr).alloc _
      have hb3 : w3.heap[wr.heap.size]? = some (.cells #[.int .u8 86] 5 (0, 0)) := by rw [hw3]; exact heap_alloc_new wr _
      have hCl := byte1_calls q HB.out (hR.go hs3) 28 (.pointer (some ⟨wr.heap.size, 0, none⟩)) (fun x => decide (x = 86)) enter28 (fun x w1 hx hs1 => same_may w1 wr.heap.size x 86 ((cell_of_heap (Cd.blk hs1.b hb3) 0).trans rfl))
      rw [hw3] at hCl
      have HCl := Aside0.mk hCl
      have HS3 := Aside0.mk hs3
      rw [hw3] at HS3
      clear hCl hw3 hs3 hb3
      go_wp2_with (go_at_call 27; go_loud (refine HCl.out.mono ?_; rintro e w5 ⟨hk5, hr5⟩; rcases e1 : rd1 B (fun x => decide (x = 86)) q with ⟨a1, q1⟩ | ⟨q1⟩ <;> (rw [e1] at hr5; obtain ⟨rfl, hr5⟩ := hr5; have HK5 := Aside0.mk hk5; have HR5 := Aside0.mk hr5; have HE1 := Aside0.mk e1; clear hk5 hr5 e1)))
      · obtain ⟨k2, hk2⟩ : ∃ k2, k2 = gk - 1 := ⟨_, rfl⟩
        go_roundg k2
        case measure => have := HI.out; omega
        case rel => exact ⟨1, rfl, ⟨by have := HI.out; omega⟩, ⟨q1, Kept.thru HK.out (Kept.sinceL HS3.out HK5.out), HR5.out, by rw [HRS.out]; exact st0_ok HE1.out⟩⟩
      · exact ⟨rfl, CodeEnd.bad (by rw [HRS.out]; exact st0_bad HE1.out) (Kept.sinceL SV.out (Kept.thru HK.out (Kept.sinceL HS3.out HK5.out))) HR5.out⟩
    · obtain ⟨w3, hw3⟩ : ∃ w3, w3 = wr.alloc (.cells #[.int .u8 66] 5) := ⟨_, rfl⟩
      have hs3 : Since wr w3 := by rw [hw3]; exact (Since.refl wr).alloc _
      have hb3 : w3.heap[wr.heap.size]? = some (.cells #[.int .u8 66] 5 (0, 0)) := by rw [hw3]; exact heap_alloc_new wr _
      have hCl := byte1_calls q HB.out (hR.go hs3) 28 (.pointer (some ⟨wr.heap.size, 0, none⟩)) (fun x => decide (x = 66)) enter28 (fun x w1 hx hs1 => same_may w1 wr.heap.size x 66 ((cell_of_heap (Cd.blk hs1.b hb3) 0).trans rfl))
      rw [hw3] at hCl
      have HCl := Aside0.mk hCl
      have HS3 := Aside0.mk hs3
      rw [hw3] at HS3
      clear hCl hw3 hs3 hb3
      go_wp2_with (go_at_call 27; go_loud (refine HCl.out.mono ?_; rintro e w5 ⟨hk5, hr5⟩; rcases e1 : rd1 B (fun x => decide (x = 66)) q with ⟨a1, q1⟩ | ⟨q1⟩ <;> (rw [e1] at hr5; obtain ⟨rfl, hr5⟩ := hr5; have HK5 := Aside0.mk hk5; have HR5 := Aside0.mk hr5; have HE1 := Aside0.mk e1; clear hk5 hr5 e1)))
      · obtain ⟨k2, hk2⟩ : ∃ k2, k2 = gk - 1 := ⟨_, rfl⟩
        go_roundg k2
        case measure => have := HI.out; omega
        case rel => exact ⟨2, rfl, ⟨by have := HI.out; omega⟩, ⟨q1, Kept.thru HK.out (Kept.sinceL HS3.out HK5.out), HR5.out, by rw [HRS.out]; exact st0_ok HE1.out⟩⟩
      · exact ⟨rfl, CodeEnd.bad (by rw [HRS.out]; exact st0_bad HE1.out) (Kept.sinceL SV.out (Kept.thru HK.out (Kept.sinceL HS3.out HK5.out))) HR5.out⟩
    · obtain ⟨w3, hw3⟩ : ∃ w3, w3 = wr.alloc (.cells #[.int .u8 49] 5) := ⟨_, rfl⟩
      have hs3 : Since wr w3 := by rw [hw3]; exact (Since.refl wr).alloc _
      have hb3 : w3.heap[wr.heap.size]? = some (.cells #[.int .u8 49] 5 (0, 0)) := by rw [hw3]; exact heap_alloc_new wr _
      have hCl := byte1_calls q HB.out (hR.go hs3) 28 (.pointer (some ⟨wr.heap.size, 0, none⟩)) (fun x => decide (x = 49)) enter28 (fun x w1 hx hs1 => same_may w1 wr.heap.size x 49 ((cell_of_heap (Cd.blk hs1.b hb3) 0).trans rfl))
      rw [hw3] at hCl
      have HCl := Aside0.mk hCl
      have HS3 := Aside0.mk hs3
      rw [hw3] at HS3
      clear hCl hw3 hs3 hb3
      go_wp2_with (go_at_call 27; go_loud (refine HCl.out.mono ?_; rintro e w5 ⟨hk5, hr5⟩; rcases e1 : rd1 B (fun x => decide (x = 49)) q with ⟨a1, q1⟩ | ⟨q1⟩ <;> (rw [e1] at hr5; obtain ⟨rfl, hr5⟩ := hr5; have HK5 := Aside0.mk hk5; have HR5 := Aside0.mk hr5; have HE1 := Aside0.mk e1; clear hk5 hr5 e1)))
      · obtain ⟨k2, hk2⟩ : ∃ k2, k2 = gk - 1 := ⟨_, rfl⟩
        go_roundg k2
        case measure => have := HI.out; omega
        case rel => exact ⟨3, rfl, ⟨by have := HI.out; omega⟩, ⟨q1, Kept.thru HK.out (Kept.sinceL HS3.out HK5.out), HR5.out, by rw [HRS.out]; exact st0_ok HE1.out⟩⟩
      · exact ⟨rfl, CodeEnd.bad (by rw [HRS.out]; exact st0_bad HE1.out) (Kept.sinceL SV.out (Kept.thru HK.out (Kept.sinceL HS3.out HK5.out))) HR5.out⟩
    · have hb5 := heap_alloc_new wr (.cells #[.slice none 0 0, .int .i64 0, .slice none 0 0] 25)
      have hs3 := (Since.refl wr).alloc (.cells #[.slice none 0 0, .int .i64 0, .slice none 0 0] 25)
      have hwl : w.heap.size + 1 < wr.heap.size := Nat.lt_of_lt_of_le (Array.getElem?_eq_some_iff.1 BL.out).1 HK.out.1
      have HC0 := Aside0.mk (show Cst W0 w (wr.alloc (.cells #[.slice none 0 0, .int .i64 0, .slice none 0 0] 25)) br A c B q w.heap.size wr.heap.size (.slice none 0 0) [] 0 (.slice none 0 0) [] from
        ⟨hbr, Kept.sinceR (Kept.sinceL SV.out HK.out) hs3, hR.go hs3, Nat.le_refl _, by omega, by omega, Cd.blk hs3.b (Kept.block HK.out B2.out (by omega)), hb5, World.ownsRow_nil _ _ _ _, World.ownsRow_nil _ _ _ _⟩)
      have HCl := Aside0.mk (rdNum_calls' q HB.out H255.out HC0.out.rdr 128 128 rfl (by omega))
      obtain ⟨b5, hb5e⟩ : ∃ b, b = wr.heap.size := ⟨_, rfl⟩
      have HR1 := Aside0.mk (show res = st1 B q by rw [HRS.out]; rfl)
      clear hb5 hs3 hR l0 l1 l2
      go_wp2_with (go_at_call 29; go_loud (refine HCl.out.mono ?_; rintro e w5 ⟨hk5, hr5⟩; rcases e1 : rdNum 128 B q with ⟨a1, q1⟩ | ⟨q1⟩ <;> (rw [e1] at hr5; obtain ⟨rfl, hr5⟩ := hr5; have HK5 := Aside0.mk hk5; have HR5 := Aside0.mk hr5; have HE1 := Aside0.mk e1; clear hk5 hr5 e1)))
      rotate_left
      · exact ⟨rfl, CodeEnd.bad (by rw [HR1.out]; exact st1_bad HE1.out) (Kept.thru HC0.out.kept HK5.out) HR5.out⟩
      have hm128 : a1 ≤ 128 := (rdNum_read H255.out (by omega) HE1.out).1
      have HC1 := Aside0.mk (HC0.out.step HK5.out HR5.out)
      have HR2 := Aside0.mk (show res = st2 B a1 [] q1 by rw [HR1.out]; exact st1_ok HE1.out)
      rw [← hb5e] at HC1 ⊢
      clear hb5e
      go_loopg [22] a1 (fun gk v22 wr => ∃ i : Nat, v22 = .int .u64 (i : Int) ∧ Aside0 (i + gk = a1) ∧ Aside0 (∃ q vW ws, Cst W0 w wr br A c B q w.heap.size b5 vW ws 0 (.slice none 0 0) [] ∧ res = st2 B gk ws q ∧ ws.length = i))
      case atStart => exact ⟨0, rfl, ⟨by omega⟩, ⟨q1, _, [], HC1.out, HR2.out, rfl⟩⟩
      case round =>
        obtain ⟨i, rfl, HI2, HS2⟩ := hrel
        obtain ⟨q2, vW, ws, hC, hr2, hwl⟩ := HS2.out
        have HC2 := Aside0.mk hC
        have HR3 := Aside0.mk hr2
        have HWL := Aside0.mk hwl
        clear hC hr2 hwl
        by_cases hi : i < a1
        · have hid : decide (i < a1) = true := decide_eq_true hi
          have hii : (i : Int) < (a1 : Int) := by omega
          have hwi : IntKind.u64.wrap ((i : Int) + 1) = ((i + 1 : Nat) : Int) := by rw [IntKind.wrap_u64]; omega
          have k0 : wr.drew.cell? ⟨b5, 0, none⟩ = some vW := (cell_of_heap (HC2.out.since ((Since.refl wr).drew)).h5 0).trans rfl
          have HCl2 := Aside0.mk (rdNum_calls' q2 HB.out H255.out (HC2.out.since ((Since.refl wr).drew)).rdr 8 8 rfl (by omega))
          rcases e2 : rdNum 8 B q2 with ⟨a2, q3⟩ | ⟨q3⟩
          · have HE2 := Aside0.mk e2
            have ha2 : a2 ≤ 8 := (rdNum_read H255.out (by omega) e2).1
            have hwa : IntKind.i64.wrap (a2 : Int) = (a2 : Int) := by rw [IntKind.wrap_i64]; omega
            have HWA := Aside0.mk hwa
            clear hwa
            have HW3 := Aside0.mk (show ∀ w5, Kept wr.drew w5 (fun k => k = br) → Rdr W0 w5 br A c B q3 → Cst W0 w w5 br A c B q3 w.heap.size b5 vW ws 0 (.slice none 0 0) [] from fun w5 hk hr => (HC2.out.since ((Since.refl wr).drew)).step hk hr)
            clear e2
            go_wp2_with fail
            refine wp_region_any (by kernel_rfl) ?_
            try (change wpAny _ _ _ _ _ _ _ (World.drew _))
            refine wpAny_take (i := 0) (v := ?_) rfl (by kernel_rfl) (by kernel_rfl) (by kernel_rfl) (fun _ _ _ h => h) (Or.inl ⟨by rfl, ?_⟩) ?_
            rotate_left
            · intro w; go_simp; try with_reducible rfl
            refine wpAny_take (i := 2) (v := ?_) rfl (by kernel_rfl) (by kernel_rfl) (by kernel_rfl) (fun _ _ _ h => h) (Or.inl ⟨by rfl, ?_⟩) ?_
            rotate_left
            · intro w; go_simp; try with_reducible rfl
            refine wpAny_ready (rs := [1, 3]) (by kernel_rfl) (by simp) ?_
            refine AllReady.cons rfl (fun K hK => ?_) ?_
            · go_simp
              refine hK _ _ ?_
              clear hK K
              refine wpAny_ready (rs := [3]) (by kernel_rfl) (by simp) ?_
              refine AllReady.cons rfl (fun K hK => ?_) ?_
              · go_simp
                go_wp2_with (go_at_call 29; refine HCl2.out.mono ?_; rintro e w5 ⟨hk5, hr5⟩; rw [HE2.out] at hr5; obtain ⟨rfl, hr5⟩ := hr5; have HC5 := Aside0.mk (HW3.out w5 hk5 hr5); clear hk5 hr5; have k5 : w5.cell? ⟨b5, 0, none⟩ = some vW := (cell_of_heap HC5.out.h5 0).trans rfl; have k5b : ∀ o, (w5.alloc o).cell? ⟨b5, 0, none⟩ = some vW := fun o => (cell_of_heap ((HC5.out.since ((Since.refl w5).alloc o)).h5) 0).trans rfl; have hsz5 := HC5.out.base)
                try (refine hK _ _ ?_; clear hK K)
                refine wpAny_take (i := 4) (v := ?_) rfl (by kernel_rfl) (by kernel_rfl) (by kernel_rfl) (fun _ _ _ h => h) (Or.inl ⟨by rfl, ?_⟩) ?_
                rotate_left
                · intro w; go_simp; try with_reducible rfl
                refine wpAny_ready (rs := [5]) (by kernel_rfl) (by simp) ?_
                refine AllReady.cons rfl (fun K hK => ?_) ?_
                · go_simp
                  refine hK _ _ ?_
                  clear hK K
                  refine wpAny_ready (rs := [6]) (by kernel_rfl) (by simp) ?_
                  refine AllReady.cons rfl (fun K hK => ?_) ?_
                  · (refine step_width rfl (.tmp 25) (.tmp 29) rfl w5 w.heap.size hsz5 vW ws.length (ws.map (Value.int .i64)) rfl HC5.out.ow (by have := HWL.out; omega) (IntKind.i64.wrap (a2 : Int)) rfl ?_; intro v1 w6 ho6 hb6 hg6; obtain ⟨A6, c6, hv6⟩ := own_slice ho6; subst hv6; have HX6 := Aside0.mk (HC5.out.width hb6 hg6 (by simpa using ho6)); clear ho6 hb6 hg6; have f6 := free_of_heap HX6.out.1 0; have k6 : w6.cell? ⟨b5, 0, none⟩ = some vW := (cell_of_heap HX6.out.1 0).trans rfl)
                    refine hK _ _ ?_
                    clear hK K
                    refine wpAny_take (i := 7) (v := ?_) rfl (by kernel_rfl) (by kernel_rfl) (by kernel_rfl) (fun _ _ _ h => h) (Or.inl ⟨by rfl, ?_⟩) ?_
                    rotate_left
                    · intro w; go_simp; try with_reducible rfl
                    refine wpAny_ready (rs := [8]) (by kernel_rfl) (by simp) ?_
                    refine AllReady.cons rfl (fun K hK => ?_) ?_
                    · go_simp
                      refine hK _ _ ?_
                      clear hK K
                      refine wpAny_done (by kernel_rfl) ?_ _
                      go_wp2_with fail
                      obtain ⟨k2, hk2⟩ : ∃ k2, k2 = gk - 1 := ⟨_, rfl⟩
                      go_roundg k2
                      case measure => have := HI2.out; omega
                      case rel =>
                        have hx := HX6.out.2
                        rw [HWA.out] at hx
                        exact ⟨i + 1, rfl, ⟨by have := HI2.out; omega⟩, ⟨q3, _, _, hx, (by have hk9 : gk = k2 + 1 := (by have := HI2.out; omega); rw [HR3.out, hk9]; exact st2_ok HE2.out), by have := HWL.out; simp; omega⟩⟩
                    exact AllReady.nil
                  exact AllReady.nil
                exact AllReady.nil
              exact AllReady.nil
            refine AllReady.cons rfl (fun K hK => ?_) ?_
            · go_simp
              go_wp2_with (go_at_call 29; refine HCl2.out.mono ?_; rintro e w5 ⟨hk5, hr5⟩; rw [HE2.out] at hr5; obtain ⟨rfl, hr5⟩ := hr5; have HC5 := Aside0.mk (HW3.out w5 hk5 hr5); clear hk5 hr5; have k5 : w5.cell? ⟨b5, 0, none⟩ = some vW := (cell_of_heap HC5.out.h5 0).trans rfl; have k5b : ∀ o, (w5.alloc o).cell? ⟨b5, 0, none⟩ = some vW := fun o => (cell_of_heap ((HC5.out.since ((Since.refl w5).alloc o)).h5) 0).trans rfl; have hsz5 := HC5.out.base)
              try (refine hK _ _ ?_; clear hK K)
              refine wpAny_take (i := 4) (v := ?_) rfl (by kernel_rfl) (by kernel_rfl) (by kernel_rfl) (fun _ _ _ h => h) (Or.inl ⟨by rfl, ?_⟩) ?_
              rotate_left
              · intro w; go_simp; try with_reducible rfl
              refine wpAny_ready (rs := [1, 5]) (by kernel_rfl) (by simp) ?_
              refine AllReady.cons rfl (fun K hK => ?_) ?_
              · go_simp
                refine hK _ _ ?_
                clear hK K
                refine wpAny_ready (rs := [5]) (by kernel_rfl) (by simp) ?_
                refine AllReady.cons rfl (fun K hK => ?_) ?_
                · go_simp
                  refine hK _ _ ?_
                  clear hK K
                  refine wpAny_ready (rs := [6]) (by kernel_rfl) (by simp) ?_
                  refine AllReady.cons rfl (fun K hK => ?_) ?_
                  · (refine step_width rfl (.tmp 25) (.tmp 29) rfl w5 w.heap.size hsz5 vW ws.length (ws.map (Value.int .i64)) rfl HC5.out.ow (by have := HWL.out; omega) (IntKind.i64.wrap (a2 : Int)) rfl ?_; intro v1 w6 ho6 hb6 hg6; obtain ⟨A6, c6, hv6⟩ := own_slice ho6; subst hv6; have HX6 := Aside0.mk (HC5.out.width hb6 hg6 (by simpa using ho6)); clear ho6 hb6 hg6; have f6 := free_of_heap HX6.out.1 0; have k6 : w6.cell? ⟨b5, 0, none⟩ = some vW := (cell_of_heap HX6.out.1 0).trans rfl)
                    refine hK _ _ ?_
                    clear hK K
                    refine wpAny_take (i := 7) (v := ?_) rfl (by kernel_rfl) (by kernel_rfl) (by kernel_rfl) (fun _ _ _ h => h) (Or.inl ⟨by rfl, ?_⟩) ?_
                    rotate_left
                    · intro w; go_simp; try with_reducible rfl
                    refine wpAny_ready (rs := [8]) (by kernel_rfl) (by simp) ?_
                    refine AllReady.cons rfl (fun K hK => ?_) ?_
                    · go_simp
                      refine hK _ _ ?_
                      clear hK K
                      refine wpAny_done (by kernel_rfl) ?_ _
                      go_wp2_with fail
                      obtain ⟨k2, hk2⟩ : ∃ k2, k2 = gk - 1 := ⟨_, rfl⟩
                      go_roundg k2
                      case measure => have := HI2.out; omega
                      case rel =>
                        have hx := HX6.out.2
                        rw [HWA.out] at hx
                        exact ⟨i + 1, rfl, ⟨by have := HI2.out; omega⟩, ⟨q3, _, _, hx, (by have hk9 : gk = k2 + 1 := (by have := HI2.out; omega); rw [HR3.out, hk9]; exact st2_ok HE2.out), by have := HWL.out; simp; omega⟩⟩
                    exact AllReady.nil
                  exact AllReady.nil
                exact AllReady.nil
              refine AllReady.cons rfl (fun K hK => ?_) ?_
              · go_simp
                refine hK _ _ ?_
                clear hK K
                refine wpAny_ready (rs := [1]) (by kernel_rfl) (by simp) ?_
                refine AllReady.cons rfl (fun K hK => ?_) ?_
                · go_simp
                  refine hK _ _ ?_
                  clear hK K
                  refine wpAny_ready (rs := [6]) (by kernel_rfl) (by simp) ?_
                  refine AllReady.cons rfl (fun K hK => ?_) ?_
                  · (refine step_width rfl (.tmp 25) (.tmp 29) rfl w5 w.heap.size hsz5 vW ws.length (ws.map (Value.int .i64)) rfl HC5.out.ow (by have := HWL.out; omega) (IntKind.i64.wrap (a2 : Int)) rfl ?_; intro v1 w6 ho6 hb6 hg6; obtain ⟨A6, c6, hv6⟩ := own_slice ho6; subst hv6; have HX6 := Aside0.mk (HC5.out.width hb6 hg6 (by simpa using ho6)); clear ho6 hb6 hg6; have f6 := free_of_heap HX6.out.1 0; have k6 : w6.cell? ⟨b5, 0, none⟩ = some vW := (cell_of_heap HX6.out.1 0).trans rfl)
                    refine hK _ _ ?_
                    clear hK K
                    refine wpAny_take (i := 7) (v := ?_) rfl (by kernel_rfl) (by kernel_rfl) (by kernel_rfl) (fun _ _ _ h => h) (Or.inl ⟨by rfl, ?_⟩) ?_
                    rotate_left
                    · intro w; go_simp; try with_reducible rfl
                    refine wpAny_ready (rs := [8]) (by kernel_rfl) (by simp) ?_
                    refine AllReady.cons rfl (fun K hK => ?_) ?_
                    · go_simp
                      refine hK _ _ ?_
                      clear hK K
                      refine wpAny_done (by kernel_rfl) ?_ _
                      go_wp2_with fail
                      obtain ⟨k2, hk2⟩ : ∃ k2, k2 = gk - 1 := ⟨_, rfl⟩
                      go_roundg k2
                      case measure => have := HI2.out; omega
                      case rel =>
                        have hx := HX6.out.2
                        rw [HWA.out] at hx
                        exact ⟨i + 1, rfl, ⟨by have := HI2.out; omega⟩, ⟨q3, _, _, hx, (by have hk9 : gk = k2 + 1 := (by have := HI2.out; omega); rw [HR3.out, hk9]; exact st2_ok HE2.out), by have := HWL.out; simp; omega⟩⟩
                    exact AllReady.nil
                  exact AllReady.nil
                exact AllReady.nil
              exact AllReady.nil
            exact AllReady.nil
          · have HE2 := Aside0.mk e2
            clear e2
            go_wp2_with fail
            refine wp_region_any (by kernel_rfl) ?_
            try (change wpAny _ _ _ _ _ _ _ (World.drew _))
            refine wpAny_take (i := 0) (v := ?_) rfl (by kernel_rfl) (by kernel_rfl) (by kernel_rfl) (fun _ _ _ h => h) (Or.inl ⟨by rfl, ?_⟩) ?_
            rotate_left
            · intro w; go_simp; try with_reducible rfl
            refine wpAny_take (i := 2) (v := ?_) rfl (by kernel_rfl) (by kernel_rfl) (by kernel_rfl) (fun _ _ _ h => h) (Or.inl ⟨by rfl, ?_⟩) ?_
            rotate_left
            · intro w; go_simp; try with_reducible rfl
            refine wpAny_ready (rs := [1, 3]) (by kernel_rfl) (by simp) ?_
            refine AllReady.cons rfl (fun K hK => ?_) ?_
            · go_simp
              refine hK _ _ ?_
              clear hK K
              refine wpAny_ready (rs := [3]) (by kernel_rfl) (by simp) ?_
              refine AllReady.cons rfl (fun K hK => ?_) ?_
              · go_simp
                go_wp2_with (go_at_call 29; go_loud (refine HCl2.out.mono ?_; rintro e w5 ⟨hk5, hr5⟩; rw [HE2.out] at hr5; obtain ⟨rfl, hr5⟩ := hr5; have HK6 := Aside0.mk hk5; have HR6 := Aside0.mk hr5; clear hk5 hr5))
                exact ⟨rfl, CodeEnd.bad (by have hk9 : gk = (gk - 1) + 1 := (by have := HI2.out; omega); rw [HR3.out, hk9]; exact st2_bad HE2.out) (Kept.thru HC2.out.kept (Kept.sinceL ((Since.refl wr).drew) HK6.out)) HR6.out⟩
              exact AllReady.nil
            refine AllReady.cons rfl (fun K hK => ?_) ?_
            · go_simp
              go_wp2_with (go_at_call 29; go_loud (refine HCl2.out.mono ?_; rintro e w5 ⟨hk5, hr5⟩; rw [HE2.out] at hr5; obtain ⟨rfl, hr5⟩ := hr5; have HK6 := Aside0.mk hk5; have HR6 := Aside0.mk hr5; clear hk5 hr5))
              exact ⟨rfl, CodeEnd.bad (by have hk9 : gk = (gk - 1) + 1 := (by have := HI2.out; omega); rw [HR3.out, hk9]; exact st2_bad HE2.out) (Kept.thru HC2.out.kept (Kept.sinceL ((Since.refl wr).drew) HK6.out)) HR6.out⟩
            exact AllReady.nil
        · have hid : decide (i < a1) = false := decide_eq_false hi
          have hii : ¬ (i : Int) < (a1 : Int) := by omega
          have HR4 := Aside0.mk (show res = st3 B ws q2 by have h0 : gk = 0 := (by have := HI2.out; omega); rw [HR3.out, h0]; rfl)
          have HCl3 := Aside0.mk (rdNum_calls' q2 HB.out H255.out HC2.out.rdr 256 256 rfl (by omega))
          rcases e3 : rdNum 256 B q2 with ⟨a3, q3⟩ | ⟨q3⟩
          rotate_left
          · have HE3 := Aside0.mk e3
            clear e3
            go_wp2_with (go_at_call 29; go_loud (refine HCl3.out.mono ?_; rintro e w6 ⟨hk5, hr5⟩; rw [HE3.out] at hr5; obtain ⟨rfl, hr5⟩ := hr5; have HK6 := Aside0.mk hk5; have HR6 := Aside0.mk hr5; clear hk5 hr5))
            exact ⟨rfl, CodeEnd.bad (by rw [HR4.out]; exact st3_bad HE3.out) (Kept.thru HC2.out.kept HK6.out) HR6.out⟩
          have HE3 := Aside0.mk e3
          have ha3 : a3 ≤ 256 := (rdNum_read H255.out (by omega) e3).1
          have HR5' := Aside0.mk (show res = st4 B ws (a3 : Int) q3 by rw [HR4.out]; exact st3_ok HE3.out)
          clear e3
          rcases e4 : rdNum 4096 B q3 with ⟨a4, q4⟩ | ⟨q4⟩ <;> have HE4 := Aside0.mk e4 <;> clear e4
          all_goals
            go_wp2_with (first
              | (go_at_call 29; ((with_reducible refine HCl3.out.mono ?_); rintro e w6 ⟨hk5, hr5⟩; rw [HE3.out] at hr5; obtain ⟨rfl, hr5⟩ := hr5; have HC6 := Aside0.mk (HC2.out.step hk5 hr5); clear hk5 hr5; have k6 : w6.cell? ⟨b5, 1, none⟩ = some (.int .i64 0) := (cell_of_heap HC6.out.h5 1).trans rfl; have f6 := free_of_heap HC6.out.h5 1))
              | (go_at_call 24; refine (forms_calls2 _).mono ?_; rintro e w7 ⟨g, cap, cur, rfl, hg7, hs7⟩; have HG7 := Aside0.mk hg7; have HC7 := Aside0.mk ((HC6.out.regs (a3 : Int)).since hs7); have HS7 := Aside0.mk hs7; clear hg7 hs7 k6 f6)
              | (go_at_call 29; ((with_reducible refine (rdNum_calls' q3 HB.out H255.out (HC7.out.since ((Since.refl w7).alloc _)).rdr 4096 4096 rfl (by omega)).mono ?_); rintro e w8 ⟨hk5, hr5⟩; rw [HE4.out] at hr5; obtain ⟨rfl, hr5⟩ := hr5; have HK8 := Aside0.mk hk5; have HR8 := Aside0.mk hr5; clear hk5 hr5)))
          rotate_left
          · exact ⟨rfl, CodeEnd.bad (by rw [HR5'.out]; exact st4_bad HE4.out) (Kept.thru (HC7.out.since ((Since.refl w7).alloc _)).kept HK8.out) HR8.out⟩
          have ha4 : a4 ≤ 4096 := (rdNum_read H255.out (by omega) HE4.out).1
          have HL8 := Aside0.mk (show Lst w8 br w7.heap.size g cap cur from
            Lst.step ⟨heap_alloc_new w7 _, Cd.blk ((Since.refl w7).alloc _).b HG7.out.2.1, by have := HC7.out.base; omega, by
              have h1 := HG7.out.1
              have h2 := (HC6.out.regs (a3 : Int)).base
              omega⟩ HK8.out)
          have HCU := Aside0.mk HG7.out.2.2.2
          have HC8 := Aside0.mk ((HC7.out.since ((Since.refl w7).alloc _)).step HK8.out HR8.out)
          obtain ⟨b6, hb6⟩ : ∃ b, b = w7.heap.size := ⟨_, rfl⟩
          have HR9 := Aside0.mk (show res = st6 ws (a3 : Int) a4 [] B q4 by rw [HR5'.out]; exact st4_ok HE4.out)
          rw [← hb6] at HL8 ⊢
          clear hb6 HG7 HS7
          go_loopg [40] a4 (fun gk v40 wr => ∃ i : Nat, v40 = .int .u64 (i : Int) ∧ Aside0 (i + gk = a4) ∧ Aside0 (∃ q vI xs, Cst W0 w wr br A c B q w.heap.size b5 vW ws (a3 : Int) vI xs ∧ Lst wr br b6 g cap cur ∧ res = st6 ws (a3 : Int) gk xs B q ∧ xs.length = i))
          case atStart => exact ⟨0, rfl, ⟨by omega⟩, ⟨q4, _, [], HC8.out, HL8.out, HR9.out, rfl⟩⟩
          case round =>
            obtain ⟨i, rfl, HI3, HS3⟩ := hrel
            obtain ⟨q5, vI, xs, hC, hL, hr5, hxl⟩ := HS3.out
            have HCx := Aside0.mk hC
            have HLx := Aside0.mk hL
            have HRx := Aside0.mk hr5
            have HXL := Aside0.mk hxl
            obtain ⟨Aw, cw, hvW⟩ := own_slice hC.ow
            obtain ⟨Ai, ci, hvI⟩ := own_slice hC.oi
            have HVW := Aside0.mk (And.intro hvW hvI)
            clear hC hL hr5 hxl
            by_cases hi : i < a4
            · have hid : decide (i < a4) = true := decide_eq_true hi
              have hii : (i : Int) < (a4 : Int) := by omega
              have hwi : IntKind.u64.wrap ((i : Int) + 1) = ((i + 1 : Nat) : Int) := by rw [IntKind.wrap_u64]; omega
              have HGK := Aside0.mk (show gk = (gk - 1) + 1 by have := HI3.out; omega)
              clear hvW hvI
              have hCl := byte1_calls q5 HB.out HCx.out.rdr 30 (.pointer (some ⟨b6, 0, none⟩)) (fun x => decide (x < 19)) enter30 (fun x w1 hx hs1 => op_may19 w1 b6 x (some ⟨g, 0, none⟩) cap (H255.out x hx) ((cell_of_heap ((HLx.out.since hs1).h6) 0).trans rfl))
              have HCl5 := Aside0.mk hCl
              clear hCl
              rcases e5 : rd1 B (fun x => decide (x < 19)) q5 with ⟨op, q6⟩ | ⟨q6⟩
              rotate_left
              · have HE5 := Aside0.mk e5
                clear e5
                go_wp2_with (go_at_call 27; go_loud (refine HCl5.out.mono ?_; rintro e w9 ⟨hk5, hr5⟩; rw [HE5.out] at hr5; obtain ⟨rfl, hr5⟩ := hr5; have HK9 := Aside0.mk hk5; have HR9' := Aside0.mk hr5; clear hk5 hr5))
                exact ⟨rfl, CodeEnd.bad (by rw [HRx.out, HGK.out]; exact st6_opbad HE5.out) (Kept.thru HCx.out.kept HK9.out) HR9'.out⟩
              have HE5 := Aside0.mk e5
              obtain ⟨o1, o2, o3⟩ := rd1_ok e5
              have ho0 := (H255.out op (List.mem_of_getElem? o1)).1
              have ho19 : op < 19 := by simpa using o2
              clear e5 o1 o2 o3
              obtain ⟨ag, hag⟩ : ∃ a : Addr, a = ⟨g, 0, none⟩ := ⟨_, rfl⟩
              have HAG := Aside0.mk hag
              have HD := Aside0.mk (show ∀ wX, Lst wX br b6 g cap cur → wX.cell? ⟨b6, 0, none⟩ = some (.slice (some ag) 19 cap) ∧ wX.cell? (ag.add (op.toNat * 7)) = some (.string (fnF op)) from fun wX hl => by
                refine ⟨by rw [hag]; exact cell_of_heap hl.h6 0, ?_⟩
                rw [hag, add_plain, cell_of_heap hl.hg]
                exact HCU.out op ho0 ho19)
              clear hag
              obtain ⟨nm, hnm⟩ : ∃ s, s = fnF op := ⟨_, rfl⟩
              rw [← hnm] at HD
              have HNM := Aside0.mk hnm
              clear hnm
              have HRy := Aside0.mk ((HRx.out.trans (congrArg (fun k => st6 ws (a3 : Int) k xs B q5) HGK.out)).trans (st6_op HE5.out))
              rcases e6 : rdS B q6 with ⟨xa, q7⟩ | ⟨q7⟩
              rotate_left
              · have HE6 := Aside0.mk e6
                clear e6
                go_wp2_with (go_at_call 27; go_loud (refine HCl5.out.mono ?_; rintro e w9 ⟨hk5, hr5⟩; rw [HE5.out] at hr5; obtain ⟨rfl, hr5⟩ := hr5; have HC9 := Aside0.mk (HCx.out.step hk5 hr5); have HL9 := Aside0.mk (HLx.out.step hk5); clear hk5 hr5))
                refine wp_region_held_drew (S := fun w' => w'.cell? ⟨b6, 0, none⟩ = some (.slice (some ag) 19 cap) ∧ w'.cell? (ag.add (op.toNat * 7)) = some (.string nm)) (by kernel_rfl) (HD.out _ (HL9.out.since ((Since.refl w9).drew))) (fun hHeld => ?_)
                refine wpAnyH_take (i := 1) (v := ?_) rfl (by kernel_rfl) (by kernel_rfl) (by kernel_rfl) (fun _ _ _ h => h) (Or.inl ⟨by rfl, ?_⟩) hHeld ?_
                rotate_left
                · intro w hSw; obtain ⟨hSa, hSb⟩ := hSw; go_simp; try with_reducible rfl
                try simp only [Act.put, List.setIfInBounds_toArray, List.set_cons_zero, List.set_cons_succ]
                refine wpAnyH_take (i := 5) (v := ?_) rfl (by kernel_rfl) (by kernel_rfl) (by kernel_rfl) (fun _ _ _ h => h) (Or.inl ⟨by rfl, ?_⟩) hHeld ?_
                rotate_left
                · intro w hSw; obtain ⟨hSa, hSb⟩ := hSw; go_simp; try with_reducible rfl
                try simp only [Act.put, List.setIfInBounds_toArray, List.set_cons_zero, List.set_cons_succ]
                refine wpAnyH_take (i := 7) (v := ?_) rfl (by kernel_rfl) (by kernel_rfl) (by kernel_rfl) (fun _ _ _ h => h) (Or.inl ⟨by rfl, ?_⟩) hHeld ?_
                rotate_left
                · intro w hSw; obtain ⟨hSa, hSb⟩ := hSw; go_simp; try with_reducible rfl
                try simp only [Act.put, List.setIfInBounds_toArray, List.set_cons_zero, List.set_cons_succ]
                refine wpAnyH_take (i := 9) (v := ?_) rfl (by kernel_rfl) (by kernel_rfl) (by kernel_rfl) (fun _ _ _ h => h) (Or.inl ⟨by rfl, ?_⟩) hHeld ?_
                rotate_left
                · intro w hSw; obtain ⟨hSa, hSb⟩ := hSw; go_simp; try with_reducible rfl
                try simp only [Act.put, List.setIfInBounds_toArray, List.set_cons_zero, List.set_cons_succ]
                refine wpAnyH_take (i := 0) (v := ?_) rfl (by kernel_rfl) (by kernel_rfl) (by kernel_rfl) (fun _ _ _ h => h) (Or.inl ⟨by rfl, ?_⟩) hHeld ?_
                rotate_left
                · intro w hSw; obtain ⟨hSa, hSb⟩ := hSw; go_simp; try with_reducible rfl
                try simp only [Act.put, List.setIfInBounds_toArray, List.set_cons_zero, List.set_cons_succ]
                refine wpAnyH_take (i := 2) (v := ?_) rfl (by kernel_rfl) (by kernel_rfl) (by kernel_rfl) (fun _ _ _ h => h) (Or.inl ⟨by rfl, ?_⟩) hHeld ?_
                rotate_left
                · intro w hSw; obtain ⟨hSa, hSb⟩ := hSw; go_simp; try with_reducible rfl
                try simp only [Act.put, List.setIfInBounds_toArray, List.set_cons_zero, List.set_cons_succ]
                refine wpAnyH_take (i := 3) (v := ?_) rfl (by kernel_rfl) (by kernel_rfl) (by kernel_rfl) (fun _ _ _ h => h) (Or.inl ⟨by rfl, ?_⟩) hHeld ?_
                rotate_left
                · intro w hSw; obtain ⟨hSa, hSb⟩ := hSw; go_simp; try with_reducible rfl
                try simp only [Act.put, List.setIfInBounds_toArray, List.set_cons_zero, List.set_cons_succ]
                refine wpAnyH_take (i := 4) (v := ?_) rfl (by kernel_rfl) (by kernel_rfl) (by kernel_rfl) (fun _ _ _ h => h) (Or.inl ⟨by rfl, ?_⟩) hHeld ?_
                rotate_left
                · intro w hSw; obtain ⟨hSa, hSb⟩ := hSw; go_simp; try with_reducible rfl
                try simp only [Act.put, List.setIfInBounds_toArray, List.set_cons_zero, List.set_cons_succ]
                refine wpAnyH_ready (rs := [6, 12]) (by kernel_rfl) (by simp) ?_
                refine AllReadyH.cons rfl (fun K hK => ?_) ?_
                · go_simp
                  go_wp2_with (go_at_call 31; go_loud (refine (rdS_calls q6 HB.out H255.out (HC9.out.since ((Since.refl w9).drew)).rdr).mono ?_; rintro e w101 ⟨hk5, hr5⟩; rw [HE6.out] at hr5; obtain ⟨rfl, hr5⟩ := hr5; have HK101 := Aside0.mk hk5; have HR101 := Aside0.mk hr5; clear hk5 hr5))
                  exact ⟨rfl, CodeEnd.bad (by have hy := HRy.out; simp only [bind_off HE6.out] at hy; exact hy) (Kept.thru (HC9.out.since ((Since.refl w9).drew)).kept HK101.out) HR101.out⟩
                refine AllReadyH.cons rfl (fun K hK => ?_) ?_
                · skip
                  go_simp
                  have HA102 := Aside0.mk ((Since.refl (w9.drew)).alloc (.cells #[.string ⟨#[]⟩, .int .i64 0, .int .i64 0, .int .i64 0, .string ⟨#[]⟩] 39))
                  refine hK.out _ _ (HD.out _ ((HL9.out.since ((Since.refl w9).drew)).since HA102.out)) (fun hHeld => ?_)
                  clear hK K
                  try simp only [Act.put, List.setIfInBounds_toArray, List.set_cons_zero, List.set_cons_succ]
                  have HB102 := Aside0.mk (heap_alloc_new (w9.drew) (.cells #[.string ⟨#[]⟩, .int .i64 0, .int .i64 0, .int .i64 0, .string ⟨#[]⟩] 39))
                  have HF102 := Aside0.mk (Cst.fresh (HC9.out.since ((Since.refl w9).drew)) (HL9.out.since ((Since.refl w9).drew)))
                  refine wpAnyH_ready (rs := [6]) (by kernel_rfl) (by simp) ?_
                  refine AllReadyH.cons rfl (fun K hK => ?_) ?_
                  · go_simp
                    go_wp2_with (go_at_call 31; go_loud (refine (rdS_calls q6 HB.out H255.out ((HC9.out.since ((Since.refl w9).drew)).since HA102.out).rdr).mono ?_; rintro e w103 ⟨hk5, hr5⟩; rw [HE6.out] at hr5; obtain ⟨rfl, hr5⟩ := hr5; have HK103 := Aside0.mk hk5; have HR103 := Aside0.mk hr5; clear hk5 hr5))
                    exact ⟨rfl, CodeEnd.bad (by have hy := HRy.out; simp only [bind_off HE6.out] at hy; exact hy) (Kept.thru ((HC9.out.since ((Since.refl w9).drew)).since HA102.out).kept HK103.out) HR103.out⟩
                  exact AllReadyH.nil
                exact AllReadyH.nil
              have HE6 := Aside0.mk e6
              clear e6
              rcases e7 : rdS B q7 with ⟨xb, q8⟩ | ⟨q8⟩
              rotate_left
              · have HE7 := Aside0.mk e7
                clear e7
                go_wp2_with (go_at_call 27; go_loud (refine HCl5.out.mono ?_; rintro e w9 ⟨hk5, hr5⟩; rw [HE5.out] at hr5; obtain ⟨rfl, hr5⟩ := hr5; have HC9 := Aside0.mk (HCx.out.step hk5 hr5); have HL9 := Aside0.mk (HLx.out.step hk5); clear hk5 hr5))
                refine wp_region_held_drew (S := fun w' => w'.cell? ⟨b6, 0, none⟩ = some (.slice (some ag) 19 cap) ∧ w'.cell? (ag.add (op.toNat * 7)) = some (.string nm)) (by kernel_rfl) (HD.out _ (HL9.out.since ((Since.refl w9).drew))) (fun hHeld => ?_)
                refine wpAnyH_take (i := 1) (v := ?_) rfl (by kernel_rfl) (by kernel_rfl) (by kernel_rfl) (fun _ _ _ h => h) (Or.inl ⟨by rfl, ?_⟩) hHeld ?_
                rotate_left
                · intro w hSw; obtain ⟨hSa, hSb⟩ := hSw; go_simp; try with_reducible rfl
                try simp only [Act.put, List.setIfInBounds_toArray, List.set_cons_zero, List.set_cons_succ]
                refine wpAnyH_take (i := 5) (v := ?_) rfl (by kernel_rfl) (by kernel_rfl) (by kernel_rfl) (fun _ _ _ h => h) (Or.inl ⟨by rfl, ?_⟩) hHeld ?_
                rotate_left
                · intro w hSw; obtain ⟨hSa, hSb⟩ := hSw; go_simp; try with_reducible rfl
                try simp only [Act.put, List.setIfInBounds_toArray, List.set_cons_zero, List.set_cons_succ]
                refine wpAnyH_take (i := 7) (v := ?_) rfl (by kernel_rfl) (by kernel_rfl) (by kernel_rfl) (fun _ _ _ h => h) (Or.inl ⟨by rfl, ?_⟩) hHeld ?_
                rotate_left
                · intro w hSw; obtain ⟨hSa, hSb⟩ := hSw; go_simp; try with_reducible rfl
                try simp only [Act.put, List.setIfInBounds_toArray, List.set_cons_zero, List.set_cons_succ]
                refine wpAnyH_take (i := 9) (v := ?_) rfl (by kernel_rfl) (by kernel_rfl) (by kernel_rfl) (fun _ _ _ h => h) (Or.inl ⟨by rfl, ?_⟩) hHeld ?_
                rotate_left
                · intro w hSw; obtain ⟨hSa, hSb⟩ := hSw; go_simp; try with_reducible rfl
                try simp only [Act.put, List.setIfInBounds_toArray, List.set_cons_zero, List.set_cons_succ]
                refine wpAnyH_take (i := 0) (v := ?_) rfl (by kernel_rfl) (by kernel_rfl) (by kernel_rfl) (fun _ _ _ h => h) (Or.inl ⟨by rfl, ?_⟩) hHeld ?_
                rotate_left
                · intro w hSw; obtain ⟨hSa, hSb⟩ := hSw; go_simp; try with_reducible rfl
                try simp only [Act.put, List.setIfInBounds_toArray, List.set_cons_zero, List.set_cons_succ]
                refine wpAnyH_take (i := 2) (v := ?_) rfl (by kernel_rfl) (by kernel_rfl) (by kernel_rfl) (fun _ _ _ h => h) (Or.inl ⟨by rfl, ?_⟩) hHeld ?_
                rotate_left
                · intro w hSw; obtain ⟨hSa, hSb⟩ := hSw; go_simp; try with_reducible rfl
                try simp only [Act.put, List.setIfInBounds_toArray, List.set_cons_zero, List.set_cons_succ]
                refine wpAnyH_take (i := 3) (v := ?_) rfl (by kernel_rfl) (by kernel_rfl) (by kernel_rfl) (fun _ _ _ h => h) (Or.inl ⟨by rfl, ?_⟩) hHeld ?_
                rotate_left
                · intro w hSw; obtain ⟨hSa, hSb⟩ := hSw; go_simp; try with_reducible rfl
                try simp only [Act.put, List.setIfInBounds_toArray, List.set_cons_zero, List.set_cons_succ]
                refine wpAnyH_take (i := 4) (v := ?_) rfl (by kernel_rfl) (by kernel_rfl) (by kernel_rfl) (fun _ _ _ h => h) (Or.inl ⟨by rfl, ?_⟩) hHeld ?_
                rotate_left
                · intro w hSw; obtain ⟨hSa, hSb⟩ := hSw; go_simp; try with_reducible rfl
                try simp only [Act.put, List.setIfInBounds_toArray, List.set_cons_zero, List.set_cons_succ]
                refine wpAnyH_ready (rs := [6, 12]) (by kernel_rfl) (by simp) ?_
                refine AllReadyH.cons rfl (fun K hK => ?_) ?_
                · go_simp
                  go_wp2_with (go_at_call 31; go_loud (refine (rdS_calls q6 HB.out H255.out (HC9.out.since ((Since.refl w9).drew)).rdr).mono ?_; rintro e w104 ⟨hk5, hr5⟩; rw [HE6.out] at hr5; obtain ⟨rfl, hr5⟩ := hr5; have HC104 := Aside0.mk ((HC9.out.since ((Since.refl w9).drew)).step hk5 hr5); have HL104 := Aside0.mk ((HL9.out.since ((Since.refl w9).drew)).step hk5); clear hk5 hr5))
                  refine hK.out _ _ (HD.out _ HL104.out) (fun hHeld => ?_)
                  clear hK K
                  try simp only [Act.put, List.setIfInBounds_toArray, List.set_cons_zero, List.set_cons_succ]
                  refine wpAnyH_ready (rs := [8, 12]) (by kernel_rfl) (by simp) ?_
                  refine AllReadyH.cons rfl (fun K hK => ?_) ?_
                  · go_simp
                    go_wp2_with (go_at_call 31; go_loud (refine (rdS_calls q7 HB.out H255.out HC104.out.rdr).mono ?_; rintro e w105 ⟨hk5, hr5⟩; rw [HE7.out] at hr5; obtain ⟨rfl, hr5⟩ := hr5; have HK105 := Aside0.mk hk5; have HR105 := Aside0.mk hr5; clear hk5 hr5))
                    exact ⟨rfl, CodeEnd.bad (by have hy := HRy.out; simp only [bind_on HE6.out, bind_off HE7.out] at hy; exact hy) (Kept.thru HC104.out.kept HK105.out) HR105.out⟩
                  refine AllReadyH.cons rfl (fun K hK => ?_) ?_
                  · skip
                    go_simp
                    have HA106 := Aside0.mk ((Since.refl (w104)).alloc (.cells #[.string ⟨#[]⟩, .int .i64 0, .int .i64 0, .int .i64 0, .string ⟨#[]⟩] 39))
                    refine hK.out _ _ (HD.out _ (HL104.out.since HA106.out)) (fun hHeld => ?_)
                    clear hK K
                    try simp only [Act.put, List.setIfInBounds_toArray, List.set_cons_zero, List.set_cons_succ]
                    have HB106 := Aside0.mk (heap_alloc_new (w104) (.cells #[.string ⟨#[]⟩, .int .i64 0, .int .i64 0, .int .i64 0, .string ⟨#[]⟩] 39))
                    have HF106 := Aside0.mk (Cst.fresh HC104.out HL104.out)
                    refine wpAnyH_ready (rs := [8]) (by kernel_rfl) (by simp) ?_
                    refine AllReadyH.cons rfl (fun K hK => ?_) ?_
                    · go_simp
                      go_wp2_with (go_at_call 31; go_loud (refine (rdS_calls q7 HB.out H255.out (HC104.out.since HA106.out).rdr).mono ?_; rintro e w107 ⟨hk5, hr5⟩; rw [HE7.out] at hr5; obtain ⟨rfl, hr5⟩ := hr5; have HK107 := Aside0.mk hk5; have HR107 := Aside0.mk hr5; clear hk5 hr5))
                      exact ⟨rfl, CodeEnd.bad (by have hy := HRy.out; simp only [bind_on HE6.out, bind_off HE7.out] at hy; exact hy) (Kept.thru (HC104.out.since HA106.out).kept HK107.out) HR107.out⟩
                    exact AllReadyH.nil
                  exact AllReadyH.nil
                refine AllReadyH.cons rfl (fun K hK => ?_) ?_
                · skip
                  go_simp
                  have HA108 := Aside0.mk ((Since.refl (w9.drew)).alloc (.cells #[.string ⟨#[]⟩, .int .i64 0, .int .i64 0, .int .i64 0, .string ⟨#[]⟩] 39))
                  refine hK.out _ _ (HD.out _ ((HL9.out.since ((Since.refl w9).drew)).since HA108.out)) (fun hHeld => ?_)
                  clear hK K
                  try simp only [Act.put, List.setIfInBounds_toArray, List.set_cons_zero, List.set_cons_succ]
                  have HB108 := Aside0.mk (heap_alloc_new (w9.drew) (.cells #[.string ⟨#[]⟩, .int .i64 0, .int .i64 0, .int .i64 0, .string ⟨#[]⟩] 39))
                  have HF108 := Aside0.mk (Cst.fresh (HC9.out.since ((Since.refl w9).drew)) (HL9.out.since ((Since.refl w9).drew)))
                  refine wpAnyH_ready (rs := [6]) (by kernel_rfl) (by simp) ?_
                  refine AllReadyH.cons rfl (fun K hK => ?_) ?_
                  · go_simp
                    go_wp2_with (go_at_call 31; go_loud (refine (rdS_calls q6 HB.out H255.out ((HC9.out.since ((Since.refl w9).drew)).since HA108.out).rdr).mono ?_; rintro e w109 ⟨hk5, hr5⟩; rw [HE6.out] at hr5; obtain ⟨rfl, hr5⟩ := hr5; have HC109 := Aside0.mk (((HC9.out.since ((Since.refl w9).drew)).since HA108.out).step hk5 hr5); have HL109 := Aside0.mk (((HL9.out.since ((Since.refl w9).drew)).since HA108.out).step hk5); have HB109 := Aside0.mk (Kept.block hk5 HB108.out (by have h1 := (HC9.out.since ((Since.refl w9).drew)).base; have h2 := HC9.out.lt; have h3 := (rfl : (w9.drew).heap.size = (w9.drew).heap.size); omega)); clear hk5 hr5))
                    refine hK.out _ _ (HD.out _ HL109.out) (fun hHeld => ?_)
                    clear hK K
                    try simp only [Act.put, List.setIfInBounds_toArray, List.set_cons_zero, List.set_cons_succ]
                    refine wpAnyH_ready (rs := [8]) (by kernel_rfl) (by simp) ?_
                    refine AllReadyH.cons rfl (fun K hK => ?_) ?_
                    · go_simp
                      go_wp2_with (go_at_call 31; go_loud (refine (rdS_calls q7 HB.out H255.out HC109.out.rdr).mono ?_; rintro e w110 ⟨hk5, hr5⟩; rw [HE7.out] at hr5; obtain ⟨rfl, hr5⟩ := hr5; have HK110 := Aside0.mk hk5; have HR110 := Aside0.mk hr5; clear hk5 hr5))
                      exact ⟨rfl, CodeEnd.bad (by have hy := HRy.out; simp only [bind_on HE6.out, bind_off HE7.out] at hy; exact hy) (Kept.thru HC109.out.kept HK110.out) HR110.out⟩
                    exact AllReadyH.nil
                  exact AllReadyH.nil
                exact AllReadyH.nil
              have HE7 := Aside0.mk e7
              clear e7
              rcases e8 : rdS B q8 with ⟨xc, q9⟩ | ⟨q9⟩
              rotate_left
              · have HE8 := Aside0.mk e8
                clear e8
                go_wp2_with (go_at_call 27; go_loud (refine HCl5.out.mono ?_; rintro e w9 ⟨hk5, hr5⟩; rw [HE5.out] at hr5; obtain ⟨rfl, hr5⟩ := hr5; have HC9 := Aside0.mk (HCx.out.step hk5 hr5); have HL9 := Aside0.mk (HLx.out.step hk5); clear hk5 hr5))
                refine wp_region_held_drew (S := fun w' => w'.cell? ⟨b6, 0, none⟩ = some (.slice (some ag) 19 cap) ∧ w'.cell? (ag.add (op.toNat * 7)) = some (.string nm)) (by kernel_rfl) (HD.out _ (HL9.out.since ((Since.refl w9).drew))) (fun hHeld => ?_)
                refine wpAnyH_take (i := 1) (v := ?_) rfl (by kernel_rfl) (by kernel_rfl) (by kernel_rfl) (fun _ _ _ h => h) (Or.inl ⟨by rfl, ?_⟩) hHeld ?_
                rotate_left
                · intro w hSw; obtain ⟨hSa, hSb⟩ := hSw; go_simp; try with_reducible rfl
                try simp only [Act.put, List.setIfInBounds_toArray, List.set_cons_zero, List.set_cons_succ]
                refine wpAnyH_take (i := 5) (v := ?_) rfl (by kernel_rfl) (by kernel_rfl) (by kernel_rfl) (fun _ _ _ h => h) (Or.inl ⟨by rfl, ?_⟩) hHeld ?_
                rotate_left
                · intro w hSw; obtain ⟨hSa, hSb⟩ := hSw; go_simp; try with_reducible rfl
                try simp only [Act.put, List.setIfInBounds_toArray, List.set_cons_zero, List.set_cons_succ]
                refine wpAnyH_take (i := 7) (v := ?_) rfl (by kernel_rfl) (by kernel_rfl) (by kernel_rfl) (fun _ _ _ h => h) (Or.inl ⟨by rfl, ?_⟩) hHeld ?_
                rotate_left
                · intro w hSw; obtain ⟨hSa, hSb⟩ := hSw; go_simp; try with_reducible rfl
                try simp only [Act.put, List.setIfInBounds_toArray, List.set_cons_zero, List.set_cons_succ]
                refine wpAnyH_take (i := 9) (v := ?_) rfl (by kernel_rfl) (by kernel_rfl) (by kernel_rfl) (fun _ _ _ h => h) (Or.inl ⟨by rfl, ?_⟩) hHeld ?_
                rotate_left
                · intro w hSw; obtain ⟨hSa, hSb⟩ := hSw; go_simp; try with_reducible rfl
                try simp only [Act.put, List.setIfInBounds_toArray, List.set_cons_zero, List.set_cons_succ]
                refine wpAnyH_take (i := 0) (v := ?_) rfl (by kernel_rfl) (by kernel_rfl) (by kernel_rfl) (fun _ _ _ h => h) (Or.inl ⟨by rfl, ?_⟩) hHeld ?_
                rotate_left
                · intro w hSw; obtain ⟨hSa, hSb⟩ := hSw; go_simp; try with_reducible rfl
                try simp only [Act.put, List.setIfInBounds_toArray, List.set_cons_zero, List.set_cons_succ]
                refine wpAnyH_take (i := 2) (v := ?_) rfl (by kernel_rfl) (by kernel_rfl) (by kernel_rfl) (fun _ _ _ h => h) (Or.inl ⟨by rfl, ?_⟩) hHeld ?_
                rotate_left
                · intro w hSw; obtain ⟨hSa, hSb⟩ := hSw; go_simp; try with_reducible rfl
                try simp only [Act.put, List.setIfInBounds_toArray, List.set_cons_zero, List.set_cons_succ]
                refine wpAnyH_take (i := 3) (v := ?_) rfl (by kernel_rfl) (by kernel_rfl) (by kernel_rfl) (fun _ _ _ h => h) (Or.inl ⟨by rfl, ?_⟩) hHeld ?_
                rotate_left
                · intro w hSw; obtain ⟨hSa, hSb⟩ := hSw; go_simp; try with_reducible rfl
                try simp only [Act.put, List.setIfInBounds_toArray, List.set_cons_zero, List.set_cons_succ]
                refine wpAnyH_take (i := 4) (v := ?_) rfl (by kernel_rfl) (by kernel_rfl) (by kernel_rfl) (fun _ _ _ h => h) (Or.inl ⟨by rfl, ?_⟩) hHeld ?_
                rotate_left
                · intro w hSw; obtain ⟨hSa, hSb⟩ := hSw; go_simp; try with_reducible rfl
                try simp only [Act.put, List.setIfInBounds_toArray, List.set_cons_zero, List.set_cons_succ]
                refine wpAnyH_ready (rs := [6, 12]) (by kernel_rfl) (by simp) ?_
                refine AllReadyH.cons rfl (fun K hK => ?_) ?_
                · go_simp
                  go_wp2_with (go_at_call 31; go_loud (refine (rdS_calls q6 HB.out H255.out (HC9.out.since ((Since.refl w9).drew)).rdr).mono ?_; rintro e w111 ⟨hk5, hr5⟩; rw [HE6.out] at hr5; obtain ⟨rfl, hr5⟩ := hr5; have HC111 := Aside0.mk ((HC9.out.since ((Since.refl w9).drew)).step hk5 hr5); have HL111 := Aside0.mk ((HL9.out.since ((Since.refl w9).drew)).step hk5); clear hk5 hr5))
                  refine hK.out _ _ (HD.out _ HL111.out) (fun hHeld => ?_)
                  clear hK K
                  try simp only [Act.put, List.setIfInBounds_toArray, List.set_cons_zero, List.set_cons_succ]
                  refine wpAnyH_ready (rs := [8, 12]) (by kernel_rfl) (by simp) ?_
                  refine AllReadyH.cons rfl (fun K hK => ?_) ?_
                  · go_simp
                    go_wp2_with (go_at_call 31; go_loud (refine (rdS_calls q7 HB.out H255.out HC111.out.rdr).mono ?_; rintro e w112 ⟨hk5, hr5⟩; rw [HE7.out] at hr5; obtain ⟨rfl, hr5⟩ := hr5; have HC112 := Aside0.mk (HC111.out.step hk5 hr5); have HL112 := Aside0.mk (HL111.out.step hk5); clear hk5 hr5))
                    refine hK.out _ _ (HD.out _ HL112.out) (fun hHeld => ?_)
                    clear hK K
                    try simp only [Act.put, List.setIfInBounds_toArray, List.set_cons_zero, List.set_cons_succ]
                    refine wpAnyH_ready (rs := [10, 12]) (by kernel_rfl) (by simp) ?_
                    refine AllReadyH.cons rfl (fun K hK => ?_) ?_
                    · go_simp
                      go_wp2_with (go_at_call 31; go_loud (refine (rdS_calls q8 HB.out H255.out HC112.out.rdr).mono ?_; rintro e w113 ⟨hk5, hr5⟩; rw [HE8.out] at hr5; obtain ⟨rfl, hr5⟩ := hr5; have HK113 := Aside0.mk hk5; have HR113 := Aside0.mk hr5; clear hk5 hr5))
                      exact ⟨rfl, CodeEnd.bad (by have hy := HRy.out; simp only [bind_on HE6.out, bind_on HE7.out, bind_off HE8.out] at hy; exact hy) (Kept.thru HC112.out.kept HK113.out) HR113.out⟩
                    refine AllReadyH.cons rfl (fun K hK => ?_) ?_
                    · skip
                      go_simp
                      have HA114 := Aside0.mk ((Since.refl (w112)).alloc (.cells #[.string ⟨#[]⟩, .int .i64 0, .int .i64 0, .int .i64 0, .string ⟨#[]⟩] 39))
                      refine hK.out _ _ (HD.out _ (HL112.out.since HA114.out)) (fun hHeld => ?_)
                      clear hK K
                      try simp only [Act.put, List.setIfInBounds_toArray, List.set_cons_zero, List.set_cons_succ]
                      have HB114 := Aside0.mk (heap_alloc_new (w112) (.cells #[.string ⟨#[]⟩, .int .i64 0, .int .i64 0, .int .i64 0, .string ⟨#[]⟩] 39))
                      have HF114 := Aside0.mk (Cst.fresh HC112.out HL112.out)
                      refine wpAnyH_ready (rs := [10]) (by kernel_rfl) (by simp) ?_
                      refine AllReadyH.cons rfl (fun K hK => ?_) ?_
                      · go_simp
                        go_wp2_with (go_at_call 31; go_loud (refine (rdS_calls q8 HB.out H255.out (HC112.out.since HA114.out).rdr).mono ?_; rintro e w115 ⟨hk5, hr5⟩; rw [HE8.out] at hr5; obtain ⟨rfl, hr5⟩ := hr5; have HK115 := Aside0.mk hk5; have HR115 := Aside0.mk hr5; clear hk5 hr5))
                        exact ⟨rfl, CodeEnd.bad (by have hy := HRy.out; simp only [bind_on HE6.out, bind_on HE7.out, bind_off HE8.out] at hy; exact hy) (Kept.thru (HC112.out.since HA114.out).kept HK115.out) HR115.out⟩
                      exact AllReadyH.nil
                    exact AllReadyH.nil
                  refine AllReadyH.cons rfl (fun K hK => ?_) ?_
                  · skip
                    go_simp
                    have HA116 := Aside0.mk ((Since.refl (w111)).alloc (.cells #[.string ⟨#[]⟩, .int .i64 0, .int .i64 0, .int .i64 0, .string ⟨#[]⟩] 39))
                    refine hK.out _ _ (HD.out _ (HL111.out.since HA116.out)) (fun hHeld => ?_)
                    clear hK K
                    try simp only [Act.put, List.setIfInBounds_toArray, List.set_cons_zero, List.set_cons_succ]
                    have HB116 := Aside0.mk (heap_alloc_new (w111) (.cells #[.string ⟨#[]⟩, .int .i64 0, .int .i64 0, .int .i64 0, .string ⟨#[]⟩] 39))
                    have HF116 := Aside0.mk (Cst.fresh HC111.out HL111.out)
                    refine wpAnyH_ready (rs := [8]) (by kernel_rfl) (by simp) ?_
                    refine AllReadyH.cons rfl (fun K hK => ?_) ?_
                    · go_simp
                      go_wp2_with (go_at_call 31; go_loud (refine (rdS_calls q7 HB.out H255.out (HC111.out.since HA116.out).rdr).mono ?_; rintro e w117 ⟨hk5, hr5⟩; rw [HE7.out] at hr5; obtain ⟨rfl, hr5⟩ := hr5; have HC117 := Aside0.mk ((HC111.out.since HA116.out).step hk5 hr5); have HL117 := Aside0.mk ((HL111.out.since HA116.out).step hk5); have HB117 := Aside0.mk (Kept.block hk5 HB116.out (by have h1 := HC111.out.base; have h2 := HC9.out.lt; have h3 := (rfl : (w111).heap.size = (w111).heap.size); omega)); clear hk5 hr5))
                      refine hK.out _ _ (HD.out _ HL117.out) (fun hHeld => ?_)
                      clear hK K
                      try simp only [Act.put, List.setIfInBounds_toArray, List.set_cons_zero, List.set_cons_succ]
                      refine wpAnyH_ready (rs := [10]) (by kernel_rfl) (by simp) ?_
                      refine AllReadyH.cons rfl (fun K hK => ?_) ?_
                      · go_simp
                        go_wp2_with (go_at_call 31; go_loud (refine (rdS_calls q8 HB.out H255.out HC117.out.rdr).mono ?_; rintro e w118 ⟨hk5, hr5⟩; rw [HE8.out] at hr5; obtain ⟨rfl, hr5⟩ := hr5; have HK118 := Aside0.mk hk5; have HR118 := Aside0.mk hr5; clear hk5 hr5))
                        exact ⟨rfl, CodeEnd.bad (by have hy := HRy.out; simp only [bind_on HE6.out, bind_on HE7.out, bind_off HE8.out] at hy; exact hy) (Kept.thru HC117.out.kept HK118.out) HR118.out⟩
                      exact AllReadyH.nil
                    exact AllReadyH.nil
                  exact AllReadyH.nil
                refine AllReadyH.cons rfl (fun K hK => ?_) ?_
                · skip
                  go_simp
                  have HA119 := Aside0.mk ((Since.refl (w9.drew)).alloc (.cells #[.string ⟨#[]⟩, .int .i64 0, .int .i64 0, .int .i64 0, .string ⟨#[]⟩] 39))
                  refine hK.out _ _ (HD.out _ ((HL9.out.since ((Since.refl w9).drew)).since HA119.out)) (fun hHeld => ?_)
                  clear hK K
                  try simp only [Act.put, List.setIfInBounds_toArray, List.set_cons_zero, List.set_cons_succ]
                  have HB119 := Aside0.mk (heap_alloc_new (w9.drew) (.cells #[.string ⟨#[]⟩, .int .i64 0, .int .i64 0, .int .i64 0, .string ⟨#[]⟩] 39))
                  have HF119 := Aside0.mk (Cst.fresh (HC9.out.since ((Since.refl w9).drew)) (HL9.out.since ((Since.refl w9).drew)))
                  refine wpAnyH_ready (rs := [6]) (by kernel_rfl) (by simp) ?_
                  refine AllReadyH.cons rfl (fun K hK => ?_) ?_
                  · go_simp
                    go_wp2_with (go_at_call 31; go_loud (refine (rdS_calls q6 HB.out H255.out ((HC9.out.since ((Since.refl w9).drew)).since HA119.out).rdr).mono ?_; rintro e w120 ⟨hk5, hr5⟩; rw [HE6.out] at hr5; obtain ⟨rfl, hr5⟩ := hr5; have HC120 := Aside0.mk (((HC9.out.since ((Since.refl w9).drew)).since HA119.out).step hk5 hr5); have HL120 := Aside0.mk (((HL9.out.since ((Since.refl w9).drew)).since HA119.out).step hk5); have HB120 := Aside0.mk (Kept.block hk5 HB119.out (by have h1 := (HC9.out.since ((Since.refl w9).drew)).base; have h2 := HC9.out.lt; have h3 := (rfl : (w9.drew).heap.size = (w9.drew).heap.size); omega)); clear hk5 hr5))
                    refine hK.out _ _ (HD.out _ HL120.out) (fun hHeld => ?_)
                    clear hK K
                    try simp only [Act.put, List.setIfInBounds_toArray, List.set_cons_zero, List.set_cons_succ]
                    refine wpAnyH_ready (rs := [8]) (by kernel_rfl) (by simp) ?_
                    refine AllReadyH.cons rfl (fun K hK => ?_) ?_
                    · go_simp
                      go_wp2_with (go_at_call 31; go_loud (refine (rdS_calls q7 HB.out H255.out HC120.out.rdr).mono ?_; rintro e w121 ⟨hk5, hr5⟩; rw [HE7.out] at hr5; obtain ⟨rfl, hr5⟩ := hr5; have HC121 := Aside0.mk (HC120.out.step hk5 hr5); have HL121 := Aside0.mk (HL120.out.step hk5); have HB121 := Aside0.mk (Kept.block hk5 HB120.out (by have h1 := (HC9.out.since ((Since.refl w9).drew)).base; have h2 := HC9.out.lt; have h3 := (rfl : (w9.drew).heap.size = (w9.drew).heap.size); omega)); clear hk5 hr5))
                      refine hK.out _ _ (HD.out _ HL121.out) (fun hHeld => ?_)
                      clear hK K
                      try simp only [Act.put, List.setIfInBounds_toArray, List.set_cons_zero, List.set_cons_succ]
                      refine wpAnyH_ready (rs := [10]) (by kernel_rfl) (by simp) ?_
                      refine AllReadyH.cons rfl (fun K hK => ?_) ?_
                      · go_simp
                        go_wp2_with (go_at_call 31; go_loud (refine (rdS_calls q8 HB.out H255.out HC121.out.rdr).mono ?_; rintro e w122 ⟨hk5, hr5⟩; rw [HE8.out] at hr5; obtain ⟨rfl, hr5⟩ := hr5; have HK122 := Aside0.mk hk5; have HR122 := Aside0.mk hr5; clear hk5 hr5))
                        exact ⟨rfl, CodeEnd.bad (by have hy := HRy.out; simp only [bind_on HE6.out, bind_on HE7.out, bind_off HE8.out] at hy; exact hy) (Kept.thru HC121.out.kept HK122.out) HR122.out⟩
                      exact AllReadyH.nil
                    exact AllReadyH.nil
                  exact AllReadyH.nil
                exact AllReadyH.nil
              have HE8 := Aside0.mk e8
              clear e8
              go_wp2_with (go_at_call 27; go_loud (refine HCl5.out.mono ?_; rintro e w9 ⟨hk5, hr5⟩; rw [HE5.out] at hr5; obtain ⟨rfl, hr5⟩ := hr5; have HC9 := Aside0.mk (HCx.out.step hk5 hr5); have HL9 := Aside0.mk (HLx.out.step hk5); clear hk5 hr5))
              refine wp_region_held_drew (S := fun w' => w'.cell? ⟨b6, 0, none⟩ = some (.slice (some ag) 19 cap) ∧ w'.cell? (ag.add (op.toNat * 7)) = some (.string nm)) (by kernel_rfl) (HD.out _ (HL9.out.since ((Since.refl w9).drew))) (fun hHeld => ?_)
              refine wpAnyH_take (i := 1) (v := ?_) rfl (by kernel_rfl) (by kernel_rfl) (by kernel_rfl) (fun _ _ _ h => h) (Or.inl ⟨by rfl, ?_⟩) hHeld ?_
              rotate_left
              · intro w hSw; obtain ⟨hSa, hSb⟩ := hSw; go_simp; try with_reducible rfl
              try simp only [Act.put, List.setIfInBounds_toArray, List.set_cons_zero, List.set_cons_succ]
              refine wpAnyH_take (i := 5) (v := ?_) rfl (by kernel_rfl) (by kernel_rfl) (by kernel_rfl) (fun _ _ _ h => h) (Or.inl ⟨by rfl, ?_⟩) hHeld ?_
              rotate_left
              · intro w hSw; obtain ⟨hSa, hSb⟩ := hSw; go_simp; try with_reducible rfl
              try simp only [Act.put, List.setIfInBounds_toArray, List.set_cons_zero, List.set_cons_succ]
              refine wpAnyH_take (i := 7) (v := ?_) rfl (by kernel_rfl) (by kernel_rfl) (by kernel_rfl) (fun _ _ _ h => h) (Or.inl ⟨by rfl, ?_⟩) hHeld ?_
              rotate_left
              · intro w hSw; obtain ⟨hSa, hSb⟩ := hSw; go_simp; try with_reducible rfl
              try simp only [Act.put, List.setIfInBounds_toArray, List.set_cons_zero, List.set_cons_succ]
              refine wpAnyH_take (i := 9) (v := ?_) rfl (by kernel_rfl) (by kernel_rfl) (by kernel_rfl) (fun _ _ _ h => h) (Or.inl ⟨by rfl, ?_⟩) hHeld ?_
              rotate_left
              · intro w hSw; obtain ⟨hSa, hSb⟩ := hSw; go_simp; try with_reducible rfl
              try simp only [Act.put, List.setIfInBounds_toArray, List.set_cons_zero, List.set_cons_succ]
              refine wpAnyH_take (i := 0) (v := ?_) rfl (by kernel_rfl) (by kernel_rfl) (by kernel_rfl) (fun _ _ _ h => h) (Or.inl ⟨by rfl, ?_⟩) hHeld ?_
              rotate_left
              · intro w hSw; obtain ⟨hSa, hSb⟩ := hSw; go_simp; try with_reducible rfl
              try simp only [Act.put, List.setIfInBounds_toArray, List.set_cons_zero, List.set_cons_succ]
              refine wpAnyH_take (i := 2) (v := ?_) rfl (by kernel_rfl) (by kernel_rfl) (by kernel_rfl) (fun _ _ _ h => h) (Or.inl ⟨by rfl, ?_⟩) hHeld ?_
              rotate_left
              · intro w hSw; obtain ⟨hSa, hSb⟩ := hSw; go_simp; try with_reducible rfl
              try simp only [Act.put, List.setIfInBounds_toArray, List.set_cons_zero, List.set_cons_succ]
              refine wpAnyH_take (i := 3) (v := ?_) rfl (by kernel_rfl) (by kernel_rfl) (by kernel_rfl) (fun _ _ _ h => h) (Or.inl ⟨by rfl, ?_⟩) hHeld ?_
              rotate_left
              · intro w hSw; obtain ⟨hSa, hSb⟩ := hSw; go_simp; try with_reducible rfl
              try simp only [Act.put, List.setIfInBounds_toArray, List.set_cons_zero, List.set_cons_succ]
              refine wpAnyH_take (i := 4) (v := ?_) rfl (by kernel_rfl) (by kernel_rfl) (by kernel_rfl) (fun _ _ _ h => h) (Or.inl ⟨by rfl, ?_⟩) hHeld ?_
              rotate_left
              · intro w hSw; obtain ⟨hSa, hSb⟩ := hSw; go_simp; try with_reducible rfl
              try simp only [Act.put, List.setIfInBounds_toArray, List.set_cons_zero, List.set_cons_succ]
              refine wpAnyH_ready (rs := [6, 12]) (by kernel_rfl) (by simp) ?_
              refine AllReadyH.cons rfl (fun K hK => ?_) ?_
              · go_simp
                go_wp2_with (go_at_call 31; go_loud (refine (rdS_calls q6 HB.out H255.out (HC9.out.since ((Since.refl w9).drew)).rdr).mono ?_; rintro e w123 ⟨hk5, hr5⟩; rw [HE6.out] at hr5; obtain ⟨rfl, hr5⟩ := hr5; have HC123 := Aside0.mk ((HC9.out.since ((Since.refl w9).drew)).step hk5 hr5); have HL123 := Aside0.mk ((HL9.out.since ((Since.refl w9).drew)).step hk5); clear hk5 hr5))
                refine hK.out _ _ (HD.out _ HL123.out) (fun hHeld => ?_)
                clear hK K
                try simp only [Act.put, List.setIfInBounds_toArray, List.set_cons_zero, List.set_cons_succ]
                refine wpAnyH_ready (rs := [8, 12]) (by kernel_rfl) (by simp) ?_
                refine AllReadyH.cons rfl (fun K hK => ?_) ?_
                · go_simp
                  go_wp2_with (go_at_call 31; go_loud (refine (rdS_calls q7 HB.out H255.out HC123.out.rdr).mono ?_; rintro e w124 ⟨hk5, hr5⟩; rw [HE7.out] at hr5; obtain ⟨rfl, hr5⟩ := hr5; have HC124 := Aside0.mk (HC123.out.step hk5 hr5); have HL124 := Aside0.mk (HL123.out.step hk5); clear hk5 hr5))
                  refine hK.out _ _ (HD.out _ HL124.out) (fun hHeld => ?_)
                  clear hK K
                  try simp only [Act.put, List.setIfInBounds_toArray, List.set_cons_zero, List.set_cons_succ]
                  refine wpAnyH_ready (rs := [10, 12]) (by kernel_rfl) (by simp) ?_
                  refine AllReadyH.cons rfl (fun K hK => ?_) ?_
                  · go_simp
                    go_wp2_with (go_at_call 31; go_loud (refine (rdS_calls q8 HB.out H255.out HC124.out.rdr).mono ?_; rintro e w125 ⟨hk5, hr5⟩; rw [HE8.out] at hr5; obtain ⟨rfl, hr5⟩ := hr5; have HC125 := Aside0.mk (HC124.out.step hk5 hr5); have HL125 := Aside0.mk (HL124.out.step hk5); clear hk5 hr5))
                    refine hK.out _ _ (HD.out _ HL125.out) (fun hHeld => ?_)
                    clear hK K
                    try simp only [Act.put, List.setIfInBounds_toArray, List.set_cons_zero, List.set_cons_succ]
                    refine wpAnyH_take (i := 11) (v := ?_) rfl (by kernel_rfl) (by kernel_rfl) (by kernel_rfl) (fun _ _ _ h => h) (Or.inl ⟨by rfl, ?_⟩) hHeld ?_
                    rotate_left
                    · intro w hSw; obtain ⟨hSa, hSb⟩ := hSw; go_simp; try with_reducible rfl
                    try simp only [Act.put, List.setIfInBounds_toArray, List.set_cons_zero, List.set_cons_succ]
                    refine wpAnyH_ready (rs := [12]) (by kernel_rfl) (by simp) ?_
                    refine AllReadyH.cons rfl (fun K hK => ?_) AllReadyH.nil
                    go_simp
                    have HA126 := Aside0.mk ((Since.refl (w125)).alloc (.cells #[.string ⟨#[]⟩, .int .i64 0, .int .i64 0, .int .i64 0, .string ⟨#[]⟩] 39))
                    refine hK.out _ _ (HD.out _ (HL125.out.since HA126.out)) (fun hHeld => ?_)
                    clear hK K
                    try simp only [Act.put, List.setIfInBounds_toArray, List.set_cons_zero, List.set_cons_succ]
                    have HB126 := Aside0.mk (heap_alloc_new (w125) (.cells #[.string ⟨#[]⟩, .int .i64 0, .int .i64 0, .int .i64 0, .string ⟨#[]⟩] 39))
                    have HF126 := Aside0.mk (Cst.fresh HC125.out HL125.out)
                    have hb8 : ((w125).alloc (.cells #[.string ⟨#[]⟩, .int .i64 0, .int .i64 0, .int .i64 0, .string ⟨#[]⟩] 39)).heap[(w125).heap.size]? = some (.cells #[.string ⟨#[]⟩, .int .i64 0, .int .i64 0, .int .i64 0, .string ⟨#[]⟩] 39) := HB126.out
                    have HFF := Aside0.mk (show Fresh w br w.heap.size b5 b6 g vW vI ((w125).heap.size) from HF126.out)
                    have HC12 := Aside0.mk (HC125.out.since HA126.out)
                    have HL12 := Aside0.mk (HL125.out.since HA126.out)
                    have z0 : ((w125).alloc (.cells #[.string ⟨#[]⟩, .int .i64 0, .int .i64 0, .int .i64 0, .string ⟨#[]⟩] 39)).cell? ⟨(w125).heap.size, 0, none⟩ = some (.string ⟨#[]⟩) := (cell_of_heap hb8 0).trans rfl
                    have y0 := free_of_heap hb8 0
                    have z1 : ((w125).alloc (.cells #[.string ⟨#[]⟩, .int .i64 0, .int .i64 0, .int .i64 0, .string ⟨#[]⟩] 39)).cell? ⟨(w125).heap.size, 1, none⟩ = some (.int .i64 0) := (cell_of_heap hb8 1).trans rfl
                    have y1 := free_of_heap hb8 1
                    have z2 : ((w125).alloc (.cells #[.string ⟨#[]⟩, .int .i64 0, .int .i64 0, .int .i64 0, .string ⟨#[]⟩] 39)).cell? ⟨(w125).heap.size, 2, none⟩ = some (.int .i64 0) := (cell_of_heap hb8 2).trans rfl
                    have y2 := free_of_heap hb8 2
                    have z3 : ((w125).alloc (.cells #[.string ⟨#[]⟩, .int .i64 0, .int .i64 0, .int .i64 0, .string ⟨#[]⟩] 39)).cell? ⟨(w125).heap.size, 3, none⟩ = some (.int .i64 0) := (cell_of_heap hb8 3).trans rfl
                    have y3 := free_of_heap hb8 3
                    have z4 : ((w125).alloc (.cells #[.string ⟨#[]⟩, .int .i64 0, .int .i64 0, .int .i64 0, .string ⟨#[]⟩] 39)).cell? ⟨(w125).heap.size, 4, none⟩ = some (.string ⟨#[]⟩) := (cell_of_heap hb8 4).trans rfl
                    have y4 := free_of_heap hb8 4
                    have HB8 := Aside0.mk hb8
                    clear hb8
                    refine wpAnyH_ready (rs := [13]) (by kernel_rfl) (by simp) ?_
                    refine AllReadyH.cons rfl (fun K hK => ?_) AllReadyH.nil
                    go_simp
                    obtain ⟨w13, hw13⟩ : ∃ w13, w13 = (w125).alloc (.cells #[.string nm, .int .i64 xa, .int .i64 xb, .int .i64 xc, .string ⟨#[]⟩] 39) := ⟨_, rfl⟩
                    rw [← hw13]
                    have HC13 := Aside0.mk (show Cst W0 w w13 br A c B q9 w.heap.size b5 vW ws (a3 : Int) vI xs by rw [hw13]; exact HC125.out.since ((Since.refl _).alloc _))
                    have HL13 := Aside0.mk (show Lst w13 br b6 g cap cur by rw [hw13]; exact HL125.out.since ((Since.refl _).alloc _))
                    have HB13 := Aside0.mk (show w13.heap[(w125).heap.size]? = some (.cells #[.string nm, .int .i64 xa, .int .i64 xb, .int .i64 xc, .string ⟨#[]⟩] 39) by rw [hw13]; exact heap_alloc_new _ _)
                    obtain ⟨b8, hb8⟩ : ∃ b, b = (w125).heap.size := ⟨_, rfl⟩
                    rw [← hb8] at HFF HB13 ⊢
                    clear hb8 hw13 z0 z1 z2 z3 z4 y0 y1 y2 y3 y4 HB8 HC12 HL12
                    refine hK.out _ _ (HD.out _ HL13.out) (fun hHeld => ?_)
                    clear hK K
                    try simp only [Act.put, List.setIfInBounds_toArray, List.set_cons_zero, List.set_cons_succ]
                    refine wpAnyH_done (by kernel_rfl) ?_ _
                    clear hHeld
                    rcases e9 : rdNum 65536 B q9 with ⟨xn, qa⟩ | ⟨qa⟩
                    rotate_left
                    · have HE9 := Aside0.mk e9
                      clear e9
                      go_wp2_with (go_at_call 29; go_loud (refine (rdNum_calls' q9 HB.out H255.out HC13.out.rdr 65536 65536 rfl (by omega)).mono ?_; rintro e w14 ⟨hk5, hr5⟩; rw [HE9.out] at hr5; obtain ⟨rfl, hr5⟩ := hr5; have HK14 := Aside0.mk hk5; have HR14 := Aside0.mk hr5; clear hk5 hr5))
                      exact ⟨rfl, CodeEnd.bad (by have hy := HRy.out; simp only [bind_on HE6.out, bind_on HE7.out, bind_on HE8.out, bind_off HE9.out] at hy; exact hy) (Kept.thru HC13.out.kept HK14.out) HR14.out⟩
                    have HE9 := Aside0.mk e9
                    have hxn : xn ≤ 65536 := (rdNum_read H255.out (by omega) e9).1
                    clear e9
                    rcases e10 : rdT xn B qa with ⟨tx, qb⟩ | ⟨qb⟩ <;> have HE10 := Aside0.mk e10 <;> clear e10
                    rotate_left
                    · go_wp2_with (first | (go_at_call 29; go_loud (refine (rdNum_calls' q9 HB.out H255.out HC13.out.rdr 65536 65536 rfl (by omega)).mono ?_; rintro e w14 ⟨hk5, hr5⟩; rw [HE9.out] at hr5; obtain ⟨rfl, hr5⟩ := hr5; have HC14 := Aside0.mk (HC13.out.step hk5 hr5); clear hk5 hr5)) | (go_at_call 32; go_loud (refine (rdT_calls qa HB.out HC14.out.rdr xn hxn).mono ?_; rintro e w15 ⟨hk5, hr5⟩; rw [HE10.out] at hr5; obtain ⟨rfl, hr5⟩ := hr5; have HK15 := Aside0.mk hk5; have HR15 := Aside0.mk hr5; clear hk5 hr5)))
                      exact ⟨rfl, CodeEnd.bad (by have hy := HRy.out; simp only [bind_on HE6.out, bind_on HE7.out, bind_on HE8.out, bind_on HE9.out, bind_off HE10.out] at hy; exact hy) (Kept.thru HC14.out.kept HK15.out) HR15.out⟩
                    have hn5 := HFF.out.n5
                    have hn5b : ¬ b5 = b8 := fun e => hn5 e.symm
                    have hxl5 : xs.length ≤ 5000 := by have := HXL.out; omega
                    go_wp2_with (first | (go_at_call 29; go_loud (refine (rdNum_calls' q9 HB.out H255.out HC13.out.rdr 65536 65536 rfl (by omega)).mono ?_; rintro e w14 ⟨hk5, hr5⟩; rw [HE9.out] at hr5; obtain ⟨rfl, hr5⟩ := hr5; have HC14 := Aside0.mk (HC13.out.step hk5 hr5); have HL14 := Aside0.mk (HL13.out.step hk5); have HB14 := Aside0.mk (Kept.block hk5 HB13.out HFF.out.nr); clear hk5 hr5)) | (go_at_call 32; go_loud (refine (rdT_calls qa HB.out HC14.out.rdr xn hxn).mono ?_; rintro e w15 ⟨hk5, hr5⟩; rw [HE10.out] at hr5; obtain ⟨rfl, hr5⟩ := hr5; have HC16 := Aside0.mk ((HC14.out.step hk5 hr5).other b8 HFF.out.le HFF.out.n2 HFF.out.n5 HFF.out.nW HFF.out.nI 4 (.string tx)); have HL16 := Aside0.mk ((HL14.out.step hk5).other b8 HFF.out.n6 HFF.out.ng 4 (.string tx)); have hb15 := Kept.block hk5 HB14.out HFF.out.nr; have z0 := (cell_of_heap hb15 0).trans rfl; have z1 := (cell_of_heap hb15 1).trans rfl; have z2 := (cell_of_heap hb15 2).trans rfl; have z3 := (cell_of_heap hb15 3).trans rfl; have z4 := (cell_of_heap hb15 4).trans rfl; have y4 := free_of_heap hb15 4; have k15 : w15.cell? ⟨b5, 2, none⟩ = some vI := (cell_of_heap (HC14.out.step hk5 hr5).h5 2).trans rfl; have hbs := HC16.out.base; clear hk5 hr5 hb15)) | ((with_reducible refine gate_builtin (b := .append) (xs := #[.tmp 64, .tmp 66]) rfl ?_); at_builtin; go_loud (refine list_ins rfl (.tmp 64) (.tmp 66) rfl (w15.setCell ⟨b8, 4, none⟩ (.string tx)) w.heap.size hbs vI xs.length (xs.flatMap cells39) rfl HC16.out.oi hxl5 ⟨nm, xa, xb, xc, tx⟩ ((show _ = Value.slice (some ⟨w15.heap.size, 0, none⟩) 1 1 from rfl).trans (by simp)) ?_; intro v1 w17 ho17 hb17 hg17; obtain ⟨A7, c7, hv7⟩ := own_slice ho17; subst hv7; have HX17 := Aside0.mk (HC16.out.ins (x := ⟨nm, xa, xb, xc, tx⟩) hb17 hg17 ho17); have HL17 := Aside0.mk (HL16.out.ins HC16.out.oi hg17 HX17.out.1 (.slice A7 (xs.length + 1) c7)); have f17 := free_of_heap HX17.out.1 2; have k17 : w17.cell? ⟨b5, 2, none⟩ = some vI := (cell_of_heap HX17.out.1 2).trans rfl; clear ho17 hb17 hg17)))
                    obtain ⟨k2, hk2⟩ : ∃ k2, k2 = gk - 1 := ⟨_, rfl⟩
                    go_roundg k2
                    case measure => have := HI3.out; omega
                    case rel =>
                      have hx := HX17.out.2
                      rw [HNM.out] at hx
                      exact ⟨i + 1, rfl, ⟨by have := HI3.out; omega⟩, ⟨qb, _, _, hx, HL17.out, (by have hy := HRy.out; simp only [bind_on HE6.out, bind_on HE7.out, bind_on HE8.out, bind_on HE9.out, bind_on HE10.out] at hy; rw [hk2]; exact hy), by have := HXL.out; simp; omega⟩⟩
                  refine AllReadyH.cons rfl (fun K hK => ?_) ?_
                  · skip
                    go_simp
                    have HA127 := Aside0.mk ((Since.refl (w124)).alloc (.cells #[.string ⟨#[]⟩, .int .i64 0, .int .i64 0, .int .i64 0, .string ⟨#[]⟩] 39))
                    refine hK.out _ _ (HD.out _ (HL124.out.since HA127.out)) (fun hHeld => ?_)
                    clear hK K
                    try simp only [Act.put, List.setIfInBounds_toArray, List.set_cons_zero, List.set_cons_succ]
                    have HB127 := Aside0.mk (heap_alloc_new (w124) (.cells #[.string ⟨#[]⟩, .int .i64 0, .int .i64 0, .int .i64 0, .string ⟨#[]⟩] 39))
                    have HF127 := Aside0.mk (Cst.fresh HC124.out HL124.out)
                    refine wpAnyH_ready (rs := [10]) (by kernel_rfl) (by simp) ?_
                    refine AllReadyH.cons rfl (fun K hK => ?_) ?_
                    · go_simp
                      go_wp2_with (go_at_call 31; go_loud (refine (rdS_calls q8 HB.out H255.out (HC124.out.since HA127.out).rdr).mono ?_; rintro e w128 ⟨hk5, hr5⟩; rw [HE8.out] at hr5; obtain ⟨rfl, hr5⟩ := hr5; have HC128 := Aside0.mk ((HC124.out.since HA127.out).step hk5 hr5); have HL128 := Aside0.mk ((HL124.out.since HA127.out).step hk5); have HB128 := Aside0.mk (Kept.block hk5 HB127.out (by have h1 := HC124.out.base; have h2 := HC9.out.lt; have h3 := (rfl : (w124).heap.size = (w124).heap.size); omega)); clear hk5 hr5))
                      refine hK.out _ _ (HD.out _ HL128.out) (fun hHeld => ?_)
                      clear hK K
                      try simp only [Act.put, List.setIfInBounds_toArray, List.set_cons_zero, List.set_cons_succ]
                      refine wpAnyH_take (i := 11) (v := ?_) rfl (by kernel_rfl) (by kernel_rfl) (by kernel_rfl) (fun _ _ _ h => h) (Or.inl ⟨by rfl, ?_⟩) hHeld ?_
                      rotate_left
                      · intro w hSw; obtain ⟨hSa, hSb⟩ := hSw; go_simp; try with_reducible rfl
                      try simp only [Act.put, List.setIfInBounds_toArray, List.set_cons_zero, List.set_cons_succ]
                      have hb8 : (w128).heap[(w124).heap.size]? = some (.cells #[.string ⟨#[]⟩, .int .i64 0, .int .i64 0, .int .i64 0, .string ⟨#[]⟩] 39) := HB128.out
                      have HFF := Aside0.mk (show Fresh w br w.heap.size b5 b6 g vW vI ((w124).heap.size) from HF127.out)
                      have HC12 := Aside0.mk HC128.out
                      have HL12 := Aside0.mk HL128.out
                      have z0 : (w128).cell? ⟨(w124).heap.size, 0, none⟩ = some (.string ⟨#[]⟩) := (cell_of_heap hb8 0).trans rfl
                      have y0 := free_of_heap hb8 0
                      have z1 : (w128).cell? ⟨(w124).heap.size, 1, none⟩ = some (.int .i64 0) := (cell_of_heap hb8 1).trans rfl
                      have y1 := free_of_heap hb8 1
                      have z2 : (w128).cell? ⟨(w124).heap.size, 2, none⟩ = some (.int .i64 0) := (cell_of_heap hb8 2).trans rfl
                      have y2 := free_of_heap hb8 2
                      have z3 : (w128).cell? ⟨(w124).heap.size, 3, none⟩ = some (.int .i64 0) := (cell_of_heap hb8 3).trans rfl
                      have y3 := free_of_heap hb8 3
                      have z4 : (w128).cell? ⟨(w124).heap.size, 4, none⟩ = some (.string ⟨#[]⟩) := (cell_of_heap hb8 4).trans rfl
                      have y4 := free_of_heap hb8 4
                      have HB8 := Aside0.mk hb8
                      clear hb8
                      refine wpAnyH_ready (rs := [13]) (by kernel_rfl) (by simp) ?_
                      refine AllReadyH.cons rfl (fun K hK => ?_) AllReadyH.nil
                      go_simp
                      obtain ⟨w13, hw13⟩ : ∃ w13, w13 = (((((w128).setCell ⟨(w124).heap.size, 0, none⟩ (.string nm)).setCell ⟨(w124).heap.size, 1, none⟩ (.int .i64 xa)).setCell ⟨(w124).heap.size, 2, none⟩ (.int .i64 xb)).setCell ⟨(w124).heap.size, 3, none⟩ (.int .i64 xc)).setCell ⟨(w124).heap.size, 4, none⟩ (.string ⟨#[]⟩) := ⟨_, rfl⟩
                      rw [← hw13]
                      obtain ⟨hc13, hl13, hb13⟩ := HC12.out.put8 HL12.out HFF.out HB8.out _ _ _ _ _ w13 hw13
                      have HC13 := Aside0.mk hc13
                      have HL13 := Aside0.mk hl13
                      have HB13 := Aside0.mk hb13
                      clear hc13 hl13 hb13
                      obtain ⟨b8, hb8⟩ : ∃ b, b = (w124).heap.size := ⟨_, rfl⟩
                      rw [← hb8] at HFF HB13 ⊢
                      clear hb8 hw13 z0 z1 z2 z3 z4 y0 y1 y2 y3 y4 HB8 HC12 HL12
                      refine hK.out _ _ (HD.out _ HL13.out) (fun hHeld => ?_)
                      clear hK K
                      try simp only [Act.put, List.setIfInBounds_toArray, List.set_cons_zero, List.set_cons_succ]
                      refine wpAnyH_done (by kernel_rfl) ?_ _
                      clear hHeld
                      rcases e9 : rdNum 65536 B q9 with ⟨xn, qa⟩ | ⟨qa⟩
                      rotate_left
                      · have HE9 := Aside0.mk e9
                        clear e9
                        go_wp2_with (go_at_call 29; go_loud (refine (rdNum_calls' q9 HB.out H255.out HC13.out.rdr 65536 65536 rfl (by omega)).mono ?_; rintro e w14 ⟨hk5, hr5⟩; rw [HE9.out] at hr5; obtain ⟨rfl, hr5⟩ := hr5; have HK14 := Aside0.mk hk5; have HR14 := Aside0.mk hr5; clear hk5 hr5))
                        exact ⟨rfl, CodeEnd.bad (by have hy := HRy.out; simp only [bind_on HE6.out, bind_on HE7.out, bind_on HE8.out, bind_off HE9.out] at hy; exact hy) (Kept.thru HC13.out.kept HK14.out) HR14.out⟩
                      have HE9 := Aside0.mk e9
                      have hxn : xn ≤ 65536 := (rdNum_read H255.out (by omega) e9).1
                      clear e9
                      rcases e10 : rdT xn B qa with ⟨tx, qb⟩ | ⟨qb⟩ <;> have HE10 := Aside0.mk e10 <;> clear e10
                      rotate_left
                      · go_wp2_with (first | (go_at_call 29; go_loud (refine (rdNum_calls' q9 HB.out H255.out HC13.out.rdr 65536 65536 rfl (by omega)).mono ?_; rintro e w14 ⟨hk5, hr5⟩; rw [HE9.out] at hr5; obtain ⟨rfl, hr5⟩ := hr5; have HC14 := Aside0.mk (HC13.out.step hk5 hr5); clear hk5 hr5)) | (go_at_call 32; go_loud (refine (rdT_calls qa HB.out HC14.out.rdr xn hxn).mono ?_; rintro e w15 ⟨hk5, hr5⟩; rw [HE10.out] at hr5; obtain ⟨rfl, hr5⟩ := hr5; have HK15 := Aside0.mk hk5; have HR15 := Aside0.mk hr5; clear hk5 hr5)))
                        exact ⟨rfl, CodeEnd.bad (by have hy := HRy.out; simp only [bind_on HE6.out, bind_on HE7.out, bind_on HE8.out, bind_on HE9.out, bind_off HE10.out] at hy; exact hy) (Kept.thru HC14.out.kept HK15.out) HR15.out⟩
                      have hn5 := HFF.out.n5
                      have hn5b : ¬ b5 = b8 := fun e => hn5 e.symm
                      have hxl5 : xs.length ≤ 5000 := by have := HXL.out; omega
                      go_wp2_with (first | (go_at_call 29; go_loud (refine (rdNum_calls' q9 HB.out H255.out HC13.out.rdr 65536 65536 rfl (by omega)).mono ?_; rintro e w14 ⟨hk5, hr5⟩; rw [HE9.out] at hr5; obtain ⟨rfl, hr5⟩ := hr5; have HC14 := Aside0.mk (HC13.out.step hk5 hr5); have HL14 := Aside0.mk (HL13.out.step hk5); have HB14 := Aside0.mk (Kept.block hk5 HB13.out HFF.out.nr); clear hk5 hr5)) | (go_at_call 32; go_loud (refine (rdT_calls qa HB.out HC14.out.rdr xn hxn).mono ?_; rintro e w15 ⟨hk5, hr5⟩; rw [HE10.out] at hr5; obtain ⟨rfl, hr5⟩ := hr5; have HC16 := Aside0.mk ((HC14.out.step hk5 hr5).other b8 HFF.out.le HFF.out.n2 HFF.out.n5 HFF.out.nW HFF.out.nI 4 (.string tx)); have HL16 := Aside0.mk ((HL14.out.step hk5).other b8 HFF.out.n6 HFF.out.ng 4 (.string tx)); have hb15 := Kept.block hk5 HB14.out HFF.out.nr; have z0 := (cell_of_heap hb15 0).trans rfl; have z1 := (cell_of_heap hb15 1).trans rfl; have z2 := (cell_of_heap hb15 2).trans rfl; have z3 := (cell_of_heap hb15 3).trans rfl; have z4 := (cell_of_heap hb15 4).trans rfl; have y4 := free_of_heap hb15 4; have k15 : w15.cell? ⟨b5, 2, none⟩ = some vI := (cell_of_heap (HC14.out.step hk5 hr5).h5 2).trans rfl; have hbs := HC16.out.base; clear hk5 hr5 hb15)) | ((with_reducible refine gate_builtin (b := .append) (xs := #[.tmp 64, .tmp 66]) rfl ?_); at_builtin; go_loud (refine list_ins rfl (.tmp 64) (.tmp 66) rfl (w15.setCell ⟨b8, 4, none⟩ (.string tx)) w.heap.size hbs vI xs.length (xs.flatMap cells39) rfl HC16.out.oi hxl5 ⟨nm, xa, xb, xc, tx⟩ ((show _ = Value.slice (some ⟨w15.heap.size, 0, none⟩) 1 1 from rfl).trans (by simp)) ?_; intro v1 w17 ho17 hb17 hg17; obtain ⟨A7, c7, hv7⟩ := own_slice ho17; subst hv7; have HX17 := Aside0.mk (HC16.out.ins (x := ⟨nm, xa, xb, xc, tx⟩) hb17 hg17 ho17); have HL17 := Aside0.mk (HL16.out.ins HC16.out.oi hg17 HX17.out.1 (.slice A7 (xs.length + 1) c7)); have f17 := free_of_heap HX17.out.1 2; have k17 : w17.cell? ⟨b5, 2, none⟩ = some vI := (cell_of_heap HX17.out.1 2).trans rfl; clear ho17 hb17 hg17)))
                      obtain ⟨k2, hk2⟩ : ∃ k2, k2 = gk - 1 := ⟨_, rfl⟩
                      go_roundg k2
                      case measure => have := HI3.out; omega
                      case rel =>
                        have hx := HX17.out.2
                        rw [HNM.out] at hx
                        exact ⟨i + 1, rfl, ⟨by have := HI3.out; omega⟩, ⟨qb, _, _, hx, HL17.out, (by have hy := HRy.out; simp only [bind_on HE6.out, bind_on HE7.out, bind_on HE8.out, bind_on HE9.out, bind_on HE10.out] at hy; rw [hk2]; exact hy), by have := HXL.out; simp; omega⟩⟩
                    exact AllReadyH.nil
                  exact AllReadyH.nil
                refine AllReadyH.cons rfl (fun K hK => ?_) ?_
                · skip
                  go_simp
                  have HA129 := Aside0.mk ((Since.refl (w123)).alloc (.cells #[.string ⟨#[]⟩, .int .i64 0, .int .i64 0, .int .i64 0, .string ⟨#[]⟩] 39))
                  refine hK.out _ _ (HD.out _ (HL123.out.since HA129.out)) (fun hHeld => ?_)
                  clear hK K
                  try simp only [Act.put, List.setIfInBounds_toArray, List.set_cons_zero, List.set_cons_succ]
                  have HB129 := Aside0.mk (heap_alloc_new (w123) (.cells #[.string ⟨#[]⟩, .int .i64 0, .int .i64 0, .int .i64 0, .string ⟨#[]⟩] 39))
                  have HF129 := Aside0.mk (Cst.fresh HC123.out HL123.out)
                  refine wpAnyH_ready (rs := [8]) (by kernel_rfl) (by simp) ?_
                  refine AllReadyH.cons rfl (fun K hK => ?_) ?_
                  · go_simp
                    go_wp2_with (go_at_call 31; go_loud (refine (rdS_calls q7 HB.out H255.out (HC123.out.since HA129.out).rdr).mono ?_; rintro e w130 ⟨hk5, hr5⟩; rw [HE7.out] at hr5; obtain ⟨rfl, hr5⟩ := hr5; have HC130 := Aside0.mk ((HC123.out.since HA129.out).step hk5 hr5); have HL130 := Aside0.mk ((HL123.out.since HA129.out).step hk5); have HB130 := Aside0.mk (Kept.block hk5 HB129.out (by have h1 := HC123.out.base; have h2 := HC9.out.lt; have h3 := (rfl : (w123).heap.size = (w123).heap.size); omega)); clear hk5 hr5))
                    refine hK.out _ _ (HD.out _ HL130.out) (fun hHeld => ?_)
                    clear hK K
                    try simp only [Act.put, List.setIfInBounds_toArray, List.set_cons_zero, List.set_cons_succ]
                    refine wpAnyH_ready (rs := [10]) (by kernel_rfl) (by simp) ?_
                    refine AllReadyH.cons rfl (fun K hK => ?_) ?_
                    · go_simp
                      go_wp2_with (go_at_call 31; go_loud (refine (rdS_calls q8 HB.out H255.out HC130.out.rdr).mono ?_; rintro e w131 ⟨hk5, hr5⟩; rw [HE8.out] at hr5; obtain ⟨rfl, hr5⟩ := hr5; have HC131 := Aside0.mk (HC130.out.step hk5 hr5); have HL131 := Aside0.mk (HL130.out.step hk5); have HB131 := Aside0.mk (Kept.block hk5 HB130.out (by have h1 := HC123.out.base; have h2 := HC9.out.lt; have h3 := (rfl : (w123).heap.size = (w123).heap.size); omega)); clear hk5 hr5))
                      refine hK.out _ _ (HD.out _ HL131.out) (fun hHeld => ?_)
                      clear hK K
                      try simp only [Act.put, List.setIfInBounds_toArray, List.set_cons_zero, List.set_cons_succ]
                      refine wpAnyH_take (i := 11) (v := ?_) rfl (by kernel_rfl) (by kernel_rfl) (by kernel_rfl) (fun _ _ _ h => h) (Or.inl ⟨by rfl, ?_⟩) hHeld ?_
                      rotate_left
                      · intro w hSw; obtain ⟨hSa, hSb⟩ := hSw; go_simp; try with_reducible rfl
                      try simp only [Act.put, List.setIfInBounds_toArray, List.set_cons_zero, List.set_cons_succ]
                      have hb8 : (w131).heap[(w123).heap.size]? = some (.cells #[.string ⟨#[]⟩, .int .i64 0, .int .i64 0, .int .i64 0, .string ⟨#[]⟩] 39) := HB131.out
                      have HFF := Aside0.mk (show Fresh w br w.heap.size b5 b6 g vW vI ((w123).heap.size) from HF129.out)
                      have HC12 := Aside0.mk HC131.out
                      have HL12 := Aside0.mk HL131.out
                      have z0 : (w131).cell? ⟨(w123).heap.size, 0, none⟩ = some (.string ⟨#[]⟩) := (cell_of_heap hb8 0).trans rfl
                      have y0 := free_of_heap hb8 0
                      have z1 : (w131).cell? ⟨(w123).heap.size, 1, none⟩ = some (.int .i64 0) := (cell_of_heap hb8 1).trans rfl
                      have y1 := free_of_heap hb8 1
                      have z2 : (w131).cell? ⟨(w123).heap.size, 2, none⟩ = some (.int .i64 0) := (cell_of_heap hb8 2).trans rfl
                      have y2 := free_of_heap hb8 2
                      have z3 : (w131).cell? ⟨(w123).heap.size, 3, none⟩ = some (.int .i64 0) := (cell_of_heap hb8 3).trans rfl
                      have y3 := free_of_heap hb8 3
                      have z4 : (w131).cell? ⟨(w123).heap.size, 4, none⟩ = some (.string ⟨#[]⟩) := (cell_of_heap hb8 4).trans rfl
                      have y4 := free_of_heap hb8 4
                      have HB8 := Aside0.mk hb8
                      clear hb8
                      refine wpAnyH_ready (rs := [13]) (by kernel_rfl) (by simp) ?_
                      refine AllReadyH.cons rfl (fun K hK => ?_) AllReadyH.nil
                      go_simp
                      obtain ⟨w13, hw13⟩ : ∃ w13, w13 = (((((w131).setCell ⟨(w123).heap.size, 0, none⟩ (.string nm)).setCell ⟨(w123).heap.size, 1, none⟩ (.int .i64 xa)).setCell ⟨(w123).heap.size, 2, none⟩ (.int .i64 xb)).setCell ⟨(w123).heap.size, 3, none⟩ (.int .i64 xc)).setCell ⟨(w123).heap.size, 4, none⟩ (.string ⟨#[]⟩) := ⟨_, rfl⟩
                      rw [← hw13]
                      obtain ⟨hc13, hl13, hb13⟩ := HC12.out.put8 HL12.out HFF.out HB8.out _ _ _ _ _ w13 hw13
                      have HC13 := Aside0.mk hc13
                      have HL13 := Aside0.mk hl13
                      have HB13 := Aside0.mk hb13
                      clear hc13 hl13 hb13
                      obtain ⟨b8, hb8⟩ : ∃ b, b = (w123).heap.size := ⟨_, rfl⟩
                      rw [← hb8] at HFF HB13 ⊢
                      clear hb8 hw13 z0 z1 z2 z3 z4 y0 y1 y2 y3 y4 HB8 HC12 HL12
                      refine hK.out _ _ (HD.out _ HL13.out) (fun hHeld => ?_)
                      clear hK K
                      try simp only [Act.put, List.setIfInBounds_toArray, List.set_cons_zero, List.set_cons_succ]
                      refine wpAnyH_done (by kernel_rfl) ?_ _
                      clear hHeld
                      rcases e9 : rdNum 65536 B q9 with ⟨xn, qa⟩ | ⟨qa⟩
                      rotate_left
                      · have HE9 := Aside0.mk e9
                        clear e9
                        go_wp2_with (go_at_call 29; go_loud (refine (rdNum_calls' q9 HB.out H255.out HC13.out.rdr 65536 65536 rfl (by omega)).mono ?_; rintro e w14 ⟨hk5, hr5⟩; rw [HE9.out] at hr5; obtain ⟨rfl, hr5⟩ := hr5; have HK14 := Aside0.mk hk5; have HR14 := Aside0.mk hr5; clear hk5 hr5))
                        exact ⟨rfl, CodeEnd.bad (by have hy := HRy.out; simp only [bind_on HE6.out, bind_on HE7.out, bind_on HE8.out, bind_off HE9.out] at hy; exact hy) (Kept.thru HC13.out.kept HK14.out) HR14.out⟩
                      have HE9 := Aside0.mk e9
                      have hxn : xn ≤ 65536 := (rdNum_read H255.out (by omega) e9).1
                      clear e9
                      rcases e10 : rdT xn B qa with ⟨tx, qb⟩ | ⟨qb⟩ <;> have HE10 := Aside0.mk e10 <;> clear e10
                      rotate_left
                      · go_wp2_with (first | (go_at_call 29; go_loud (refine (rdNum_calls' q9 HB.out H255.out HC13.out.rdr 65536 65536 rfl (by omega)).mono ?_; rintro e w14 ⟨hk5, hr5⟩; rw [HE9.out] at hr5; obtain ⟨rfl, hr5⟩ := hr5; have HC14 := Aside0.mk (HC13.out.step hk5 hr5); clear hk5 hr5)) | (go_at_call 32; go_loud (refine (rdT_calls qa HB.out HC14.out.rdr xn hxn).mono ?_; rintro e w15 ⟨hk5, hr5⟩; rw [HE10.out] at hr5; obtain ⟨rfl, hr5⟩ := hr5; have HK15 := Aside0.mk hk5; have HR15 := Aside0.mk hr5; clear hk5 hr5)))
                        exact ⟨rfl, CodeEnd.bad (by have hy := HRy.out; simp only [bind_on HE6.out, bind_on HE7.out, bind_on HE8.out, bind_on HE9.out, bind_off HE10.out] at hy; exact hy) (Kept.thru HC14.out.kept HK15.out) HR15.out⟩
                      have hn5 := HFF.out.n5
                      have hn5b : ¬ b5 = b8 := fun e => hn5 e.symm
                      have hxl5 : xs.length ≤ 5000 := by have := HXL.out; omega
                      go_wp2_with (first | (go_at_call 29; go_loud (refine (rdNum_calls' q9 HB.out H255.out HC13.out.rdr 65536 65536 rfl (by omega)).mono ?_; rintro e w14 ⟨hk5, hr5⟩; rw [HE9.out] at hr5; obtain ⟨rfl, hr5⟩ := hr5; have HC14 := Aside0.mk (HC13.out.step hk5 hr5); have HL14 := Aside0.mk (HL13.out.step hk5); have HB14 := Aside0.mk (Kept.block hk5 HB13.out HFF.out.nr); clear hk5 hr5)) | (go_at_call 32; go_loud (refine (rdT_calls qa HB.out HC14.out.rdr xn hxn).mono ?_; rintro e w15 ⟨hk5, hr5⟩; rw [HE10.out] at hr5; obtain ⟨rfl, hr5⟩ := hr5; have HC16 := Aside0.mk ((HC14.out.step hk5 hr5).other b8 HFF.out.le HFF.out.n2 HFF.out.n5 HFF.out.nW HFF.out.nI 4 (.string tx)); have HL16 := Aside0.mk ((HL14.out.step hk5).other b8 HFF.out.n6 HFF.out.ng 4 (.string tx)); have hb15 := Kept.block hk5 HB14.out HFF.out.nr; have z0 := (cell_of_heap hb15 0).trans rfl; have z1 := (cell_of_heap hb15 1).trans rfl; have z2 := (cell_of_heap hb15 2).trans rfl; have z3 := (cell_of_heap hb15 3).trans rfl; have z4 := (cell_of_heap hb15 4).trans rfl; have y4 := free_of_heap hb15 4; have k15 : w15.cell? ⟨b5, 2, none⟩ = some vI := (cell_of_heap (HC14.out.step hk5 hr5).h5 2).trans rfl; have hbs := HC16.out.base; clear hk5 hr5 hb15)) | ((with_reducible refine gate_builtin (b := .append) (xs := #[.tmp 64, .tmp 66]) rfl ?_); at_builtin; go_loud (refine list_ins rfl (.tmp 64) (.tmp 66) rfl (w15.setCell ⟨b8, 4, none⟩ (.string tx)) w.heap.size hbs vI xs.length (xs.flatMap cells39) rfl HC16.out.oi hxl5 ⟨nm, xa, xb, xc, tx⟩ ((show _ = Value.slice (some ⟨w15.heap.size, 0, none⟩) 1 1 from rfl).trans (by simp)) ?_; intro v1 w17 ho17 hb17 hg17; obtain ⟨A7, c7, hv7⟩ := own_slice ho17; subst hv7; have HX17 := Aside0.mk (HC16.out.ins (x := ⟨nm, xa, xb, xc, tx⟩) hb17 hg17 ho17); have HL17 := Aside0.mk (HL16.out.ins HC16.out.oi hg17 HX17.out.1 (.slice A7 (xs.length + 1) c7)); have f17 := free_of_heap HX17.out.1 2; have k17 : w17.cell? ⟨b5, 2, none⟩ = some vI := (cell_of_heap HX17.out.1 2).trans rfl; clear ho17 hb17 hg17)))
                      obtain ⟨k2, hk2⟩ : ∃ k2, k2 = gk - 1 := ⟨_, rfl⟩
                      go_roundg k2
                      case measure => have := HI3.out; omega
                      case rel =>
                        have hx := HX17.out.2
                        rw [HNM.out] at hx
                        exact ⟨i + 1, rfl, ⟨by have := HI3.out; omega⟩, ⟨qb, _, _, hx, HL17.out, (by have hy := HRy.out; simp only [bind_on HE6.out, bind_on HE7.out, bind_on HE8.out, bind_on HE9.out, bind_on HE10.out] at hy; rw [hk2]; exact hy), by have := HXL.out; simp; omega⟩⟩
                    exact AllReadyH.nil
                  exact AllReadyH.nil
                exact AllReadyH.nil
              refine AllReadyH.cons rfl (fun K hK => ?_) ?_
              · skip
                go_simp
                have HA132 := Aside0.mk ((Since.refl (w9.drew)).alloc (.cells #[.string ⟨#[]⟩, .int .i64 0, .int .i64 0, .int .i64 0, .string ⟨#[]⟩] 39))
                refine hK.out _ _ (HD.out _ ((HL9.out.since ((Since.refl w9).drew)).since HA132.out)) (fun hHeld => ?_)
                clear hK K
                try simp only [Act.put, List.setIfInBounds_toArray, List.set_cons_zero, List.set_cons_succ]
                have HB132 := Aside0.mk (heap_alloc_new (w9.drew) (.cells #[.string ⟨#[]⟩, .int .i64 0, .int .i64 0, .int .i64 0, .string ⟨#[]⟩] 39))
                have HF132 := Aside0.mk (Cst.fresh (HC9.out.since ((Since.refl w9).drew)) (HL9.out.since ((Since.refl w9).drew)))
                refine wpAnyH_ready (rs := [6]) (by kernel_rfl) (by simp) ?_
                refine AllReadyH.cons rfl (fun K hK => ?_) ?_
                · go_simp
                  go_wp2_with (go_at_call 31; go_loud (refine (rdS_calls q6 HB.out H255.out ((HC9.out.since ((Since.refl w9).drew)).since HA132.out).rdr).mono ?_; rintro e w133 ⟨hk5, hr5⟩; rw [HE6.out] at hr5; obtain ⟨rfl, hr5⟩ := hr5; have HC133 := Aside0.mk (((HC9.out.since ((Since.refl w9).drew)).since HA132.out).step hk5 hr5); have HL133 := Aside0.mk (((HL9.out.since ((Since.refl w9).drew)).since HA132.out).step hk5); have HB133 := Aside0.mk (Kept.block hk5 HB132.out (by have h1 := (HC9.out.since ((Since.refl w9).drew)).base; have h2 := HC9.out.lt; have h3 := (rfl : (w9.drew).heap.size = (w9.drew).heap.size); omega)); clear hk5 hr5))
                  refine hK.out _ _ (HD.out _ HL133.out) (fun hHeld => ?_)
                  clear hK K
                  try simp only [Act.put, List.setIfInBounds_toArray, List.set_cons_zero, List.set_cons_succ]
                  refine wpAnyH_ready (rs := [8]) (by kernel_rfl) (by simp) ?_
                  refine AllReadyH.cons rfl (fun K hK => ?_) ?_
                  · go_simp
                    go_wp2_with (go_at_call 31; go_loud (refine (rdS_calls q7 HB.out H255.out HC133.out.rdr).mono ?_; rintro e w134 ⟨hk5, hr5⟩; rw [HE7.out] at hr5; obtain ⟨rfl, hr5⟩ := hr5; have HC134 := Aside0.mk (HC133.out.step hk5 hr5); have HL134 := Aside0.mk (HL133.out.step hk5); have HB134 := Aside0.mk (Kept.block hk5 HB133.out (by have h1 := (HC9.out.since ((Since.refl w9).drew)).base; have h2 := HC9.out.lt; have h3 := (rfl : (w9.drew).heap.size = (w9.drew).heap.size); omega)); clear hk5 hr5))
                    refine hK.out _ _ (HD.out _ HL134.out) (fun hHeld => ?_)
                    clear hK K
                    try simp only [Act.put, List.setIfInBounds_toArray, List.set_cons_zero, List.set_cons_succ]
                    refine wpAnyH_ready (rs := [10]) (by kernel_rfl) (by simp) ?_
                    refine AllReadyH.cons rfl (fun K hK => ?_) ?_
                    · go_simp
                      go_wp2_with (go_at_call 31; go_loud (refine (rdS_calls q8 HB.out H255.out HC134.out.rdr).mono ?_; rintro e w135 ⟨hk5, hr5⟩; rw [HE8.out] at hr5; obtain ⟨rfl, hr5⟩ := hr5; have HC135 := Aside0.mk (HC134.out.step hk5 hr5); have HL135 := Aside0.mk (HL134.out.step hk5); have HB135 := Aside0.mk (Kept.block hk5 HB134.out (by have h1 := (HC9.out.since ((Since.refl w9).drew)).base; have h2 := HC9.out.lt; have h3 := (rfl : (w9.drew).heap.size = (w9.drew).heap.size); omega)); clear hk5 hr5))
                      refine hK.out _ _ (HD.out _ HL135.out) (fun hHeld => ?_)
                      clear hK K
                      try simp only [Act.put, List.setIfInBounds_toArray, List.set_cons_zero, List.set_cons_succ]
                      refine wpAnyH_take (i := 11) (v := ?_) rfl (by kernel_rfl) (by kernel_rfl) (by kernel_rfl) (fun _ _ _ h => h) (Or.inl ⟨by rfl, ?_⟩) hHeld ?_
                      rotate_left
                      · intro w hSw; obtain ⟨hSa, hSb⟩ := hSw; go_simp; try with_reducible rfl
                      try simp only [Act.put, List.setIfInBounds_toArray, List.set_cons_zero, List.set_cons_succ]
                      have hb8 : (w135).heap[w9.heap.size]? = some (.cells #[.string ⟨#[]⟩, .int .i64 0, .int .i64 0, .int .i64 0, .string ⟨#[]⟩] 39) := HB135.out
                      have HFF := Aside0.mk (show Fresh w br w.heap.size b5 b6 g vW vI (w9.heap.size) from HF132.out)
                      have HC12 := Aside0.mk HC135.out
                      have HL12 := Aside0.mk HL135.out
                      have z0 : (w135).cell? ⟨w9.heap.size, 0, none⟩ = some (.string ⟨#[]⟩) := (cell_of_heap hb8 0).trans rfl
                      have y0 := free_of_heap hb8 0
                      have z1 : (w135).cell? ⟨w9.heap.size, 1, none⟩ = some (.int .i64 0) := (cell_of_heap hb8 1).trans rfl
                      have y1 := free_of_heap hb8 1
                      have z2 : (w135).cell? ⟨w9.heap.size, 2, none⟩ = some (.int .i64 0) := (cell_of_heap hb8 2).trans rfl
                      have y2 := free_of_heap hb8 2
                      have z3 : (w135).cell? ⟨w9.heap.size, 3, none⟩ = some (.int .i64 0) := (cell_of_heap hb8 3).trans rfl
                      have y3 := free_of_heap hb8 3
                      have z4 : (w135).cell? ⟨w9.heap.size, 4, none⟩ = some (.string ⟨#[]⟩) := (cell_of_heap hb8 4).trans rfl
                      have y4 := free_of_heap hb8 4
                      have HB8 := Aside0.mk hb8
                      clear hb8
                      refine wpAnyH_ready (rs := [13]) (by kernel_rfl) (by simp) ?_
                      refine AllReadyH.cons rfl (fun K hK => ?_) AllReadyH.nil
                      go_simp
                      obtain ⟨w13, hw13⟩ : ∃ w13, w13 = (((((w135).setCell ⟨w9.heap.size, 0, none⟩ (.string nm)).setCell ⟨w9.heap.size, 1, none⟩ (.int .i64 xa)).setCell ⟨w9.heap.size, 2, none⟩ (.int .i64 xb)).setCell ⟨w9.heap.size, 3, none⟩ (.int .i64 xc)).setCell ⟨w9.heap.size, 4, none⟩ (.string ⟨#[]⟩) := ⟨_, rfl⟩
                      rw [← hw13]
                      obtain ⟨hc13, hl13, hb13⟩ := HC12.out.put8 HL12.out HFF.out HB8.out _ _ _ _ _ w13 hw13
                      have HC13 := Aside0.mk hc13
                      have HL13 := Aside0.mk hl13
                      have HB13 := Aside0.mk hb13
                      clear hc13 hl13 hb13
                      obtain ⟨b8, hb8⟩ : ∃ b, b = w9.heap.size := ⟨_, rfl⟩
                      rw [← hb8] at HFF HB13 ⊢
                      clear hb8 hw13 z0 z1 z2 z3 z4 y0 y1 y2 y3 y4 HB8 HC12 HL12
                      refine hK.out _ _ (HD.out _ HL13.out) (fun hHeld => ?_)
                      clear hK K
                      try simp only [Act.put, List.setIfInBounds_toArray, List.set_cons_zero, List.set_cons_succ]
                      refine wpAnyH_done (by kernel_rfl) ?_ _
                      clear hHeld
                      rcases e9 : rdNum 65536 B q9 with ⟨xn, qa⟩ | ⟨qa⟩
                      rotate_left
                      · have HE9 := Aside0.mk e9
                        clear e9
                        go_wp2_with (go_at_call 29; go_loud (refine (rdNum_calls' q9 HB.out H255.out HC13.out.rdr 65536 65536 rfl (by omega)).mono ?_; rintro e w14 ⟨hk5, hr5⟩; rw [HE9.out] at hr5; obtain ⟨rfl, hr5⟩ := hr5; have HK14 := Aside0.mk hk5; have HR14 := Aside0.mk hr5; clear hk5 hr5))
                        exact ⟨rfl, CodeEnd.bad (by have hy := HRy.out; simp only [bind_on HE6.out, bind_on HE7.out, bind_on HE8.out, bind_off HE9.out] at hy; exact hy) (Kept.thru HC13.out.kept HK14.out) HR14.out⟩
                      have HE9 := Aside0.mk e9
                      have hxn : xn ≤ 65536 := (rdNum_read H255.out (by omega) e9).1
                      clear e9
                      rcases e10 : rdT xn B qa with ⟨tx, qb⟩ | ⟨qb⟩ <;> have HE10 := Aside0.mk e10 <;> clear e10
                      rotate_left
                      · go_wp2_with (first | (go_at_call 29; go_loud (refine (rdNum_calls' q9 HB.out H255.out HC13.out.rdr 65536 65536 rfl (by omega)).mono ?_; rintro e w14 ⟨hk5, hr5⟩; rw [HE9.out] at hr5; obtain ⟨rfl, hr5⟩ := hr5; have HC14 := Aside0.mk (HC13.out.step hk5 hr5); clear hk5 hr5)) | (go_at_call 32; go_loud (refine (rdT_calls qa HB.out HC14.out.rdr xn hxn).mono ?_; rintro e w15 ⟨hk5, hr5⟩; rw [HE10.out] at hr5; obtain ⟨rfl, hr5⟩ := hr5; have HK15 := Aside0.mk hk5; have HR15 := Aside0.mk hr5; clear hk5 hr5)))
                        exact ⟨rfl, CodeEnd.bad (by have hy := HRy.out; simp only [bind_on HE6.out, bind_on HE7.out, bind_on HE8.out, bind_on HE9.out, bind_off HE10.out] at hy; exact hy) (Kept.thru HC14.out.kept HK15.out) HR15.out⟩
                      have hn5 := HFF.out.n5
                      have hn5b : ¬ b5 = b8 := fun e => hn5 e.symm
                      have hxl5 : xs.length ≤ 5000 := by have := HXL.out; omega
                      go_wp2_with (first | (go_at_call 29; go_loud (refine (rdNum_calls' q9 HB.out H255.out HC13.out.rdr 65536 65536 rfl (by omega)).mono ?_; rintro e w14 ⟨hk5, hr5⟩; rw [HE9.out] at hr5; obtain ⟨rfl, hr5⟩ := hr5; have HC14 := Aside0.mk (HC13.out.step hk5 hr5); have HL14 := Aside0.mk (HL13.out.step hk5); have HB14 := Aside0.mk (Kept.block hk5 HB13.out HFF.out.nr); clear hk5 hr5)) | (go_at_call 32; go_loud (refine (rdT_calls qa HB.out HC14.out.rdr xn hxn).mono ?_; rintro e w15 ⟨hk5, hr5⟩; rw [HE10.out] at hr5; obtain ⟨rfl, hr5⟩ := hr5; have HC16 := Aside0.mk ((HC14.out.step hk5 hr5).other b8 HFF.out.le HFF.out.n2 HFF.out.n5 HFF.out.nW HFF.out.nI 4 (.string tx)); have HL16 := Aside0.mk ((HL14.out.step hk5).other b8 HFF.out.n6 HFF.out.ng 4 (.string tx)); have hb15 := Kept.block hk5 HB14.out HFF.out.nr; have z0 := (cell_of_heap hb15 0).trans rfl; have z1 := (cell_of_heap hb15 1).trans rfl; have z2 := (cell_of_heap hb15 2).trans rfl; have z3 := (cell_of_heap hb15 3).trans rfl; have z4 := (cell_of_heap hb15 4).trans rfl; have y4 := free_of_heap hb15 4; have k15 : w15.cell? ⟨b5, 2, none⟩ = some vI := (cell_of_heap (HC14.out.step hk5 hr5).h5 2).trans rfl; have hbs := HC16.out.base; clear hk5 hr5 hb15)) | ((with_reducible refine gate_builtin (b := .append) (xs := #[.tmp 64, .tmp 66]) rfl ?_); at_builtin; go_loud (refine list_ins rfl (.tmp 64) (.tmp 66) rfl (w15.setCell ⟨b8, 4, none⟩ (.string tx)) w.heap.size hbs vI xs.length (xs.flatMap cells39) rfl HC16.out.oi hxl5 ⟨nm, xa, xb, xc, tx⟩ ((show _ = Value.slice (some ⟨w15.heap.size, 0, none⟩) 1 1 from rfl).trans (by simp)) ?_; intro v1 w17 ho17 hb17 hg17; obtain ⟨A7, c7, hv7⟩ := own_slice ho17; subst hv7; have HX17 := Aside0.mk (HC16.out.ins (x := ⟨nm, xa, xb, xc, tx⟩) hb17 hg17 ho17); have HL17 := Aside0.mk (HL16.out.ins HC16.out.oi hg17 HX17.out.1 (.slice A7 (xs.length + 1) c7)); have f17 := free_of_heap HX17.out.1 2; have k17 : w17.cell? ⟨b5, 2, none⟩ = some vI := (cell_of_heap HX17.out.1 2).trans rfl; clear ho17 hb17 hg17)))
                      obtain ⟨k2, hk2⟩ : ∃ k2, k2 = gk - 1 := ⟨_, rfl⟩
                      go_roundg k2
                      case measure => have := HI3.out; omega
                      case rel =>
                        have hx := HX17.out.2
                        rw [HNM.out] at hx
                        exact ⟨i + 1, rfl, ⟨by have := HI3.out; omega⟩, ⟨qb, _, _, hx, HL17.out, (by have hy := HRy.out; simp only [bind_on HE6.out, bind_on HE7.out, bind_on HE8.out, bind_on HE9.out, bind_on HE10.out] at hy; rw [hk2]; exact hy), by have := HXL.out; simp; omega⟩⟩
                    exact AllReadyH.nil
                  exact AllReadyH.nil
                exact AllReadyH.nil
              exact AllReadyH.nil
            · have hid : decide (i < a4) = false := decide_eq_false hi
              have hii : ¬ (i : Int) < (a4 : Int) := by omega
              have HRz := Aside0.mk (show res = .ok (ws, (a3 : Int), xs) q5 by have h0 : gk = 0 := (by have := HI3.out; omega); rw [HRx.out, h0]; rfl)
              subst hvW hvI
              have z0 : wr.cell? ⟨b5, 0, none⟩ = some (.slice Aw ws.length cw) := (cell_of_heap HCx.out.h5 0).trans rfl
              have z1 : wr.cell? ⟨b5, 1, none⟩ = some (.int .i64 (a3 : Int)) := (cell_of_heap HCx.out.h5 1).trans rfl
              have z2 : wr.cell? ⟨b5, 2, none⟩ = some (.slice Ai xs.length ci) := (cell_of_heap HCx.out.h5 2).trans rfl
              have y0 : wr.cell? ⟨w.heap.size, 0, none⟩ = some (.slice none 0 0) := (cell_of_heap HCx.out.h2 0).trans rfl
              have y1 : wr.cell? ⟨w.heap.size, 1, none⟩ = some (.int .i64 0) := (cell_of_heap HCx.out.h2 1).trans rfl
              have y2 : wr.cell? ⟨w.heap.size, 2, none⟩ = some (.slice none 0 0) := (cell_of_heap HCx.out.h2 2).trans rfl
              have f0 := free_of_heap HCx.out.h2 0
              have f1 := free_of_heap HCx.out.h2 1
              have f2 := free_of_heap HCx.out.h2 2
              go_wp2_with fail
              have hf := HCx.out.fin (.slice Aw ws.length cw) (.int .i64 (a3 : Int)) (.slice Ai xs.length ci) _ rfl
              exact bodyPost_ret (v := .agg #[.slice Aw ws.length cw, .int .i64 (a3 : Int), .slice Ai xs.length ci]) (by simp [results, Try.results17, go_sem, y0, y1, y2, f0, f1, f2]) rfl ⟨hf.1, by rw [HRz.out]; exact ⟨hf.2.1, _, _, rfl, hf.2.2.1, hf.2.2.2⟩⟩

end Go.Proofs.Ytdecgknnbegobaa.Cd
