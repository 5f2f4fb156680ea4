/- Words on worlds; what find answers. What word answers. What code.word answers. What parts and texts answer. What texts answers. The checker: what it keeps; isRel, behind. The checker: number. The forms: what each one's numbers are; what an instruction takes. The checker: instr. -/
import Derived.Test.YtdecgknnbegobaaDAll
import Derived.LoopTactic
import Derived.Deep.QuietTactic
import Derived.BigQuiet
import Derived.Laws.RangeString
import Derived.Laws.RangeAny
import Derived.Maps.OwnOps
import Derived.Maps.OwnSet
namespace Go.Proofs.Ytdecgknnbegobaa.Cd
open Go.RowKit Go.Lib Go.Proofs.Ytdecgknnbegobaa.D Go.Proofs.YtdecgknnbegobaaW.PrintWords Go.Proofs.YtdecgknnbegobaaW.PrintLast Go.Proofs.YtdecgknnbegobaaW.PrintMore
set_option linter.unusedVariables false
set_option linter.unusedSimpArgs false

/-- A slice of whole numbers that is read. -/
structure Sl (w : World) (A : Option Addr) (c : Nat) (l : List Int) : Prop where
  C : Kd.C (Kd.int .i64) w A l.length l
  le : l.length ≤ c
theorem Sl.below {w w1 : World} {A : Option Addr} {c : Nat} {l : List Int} (h : Sl w A c l) (hb : Below w.heap.size w w1) : Sl w1 A c l := ⟨Kd.C_below h.C hb, h.le⟩
/-- What is new since a world. -/
structure Since (w0 w' : World) : Prop where
  b : Below w0.heap.size w0 w'
theorem Since.refl (w : World) : Since w w := ⟨Below.refl _ _⟩
theorem Since.drew {w w' : World} (h : Since w w') : Since w w'.drew := ⟨below_drew h.b⟩
theorem Since.drewN {w w' : World} (h : Since w w') (n : Nat) : Since w (w'.drewN n) := ⟨pw_below_drewN h.b n⟩
theorem Since.step {w w1 w2 : World} (h : Since w w1) (hb : Below w1.heap.size w1 w2) : Since w w2 := ⟨below_then h.b h.b.size hb⟩
theorem Since.alloc {w w1 : World} (h : Since w w1) (o : Obj) : Since w (w1.alloc o) := ⟨below_alloc h.b o⟩
theorem Since.sl {w w' : World} {A : Option Addr} {c : Nat} {l : List Int} (h : Since w w') (hs : Sl w A c l) : Sl w' A c l := hs.below h.b
theorem Since.trans {w w1 w2 : World} (h : Since w w1) (k : Since w1 w2) : Since w w2 := h.step k.b
theorem Since.ofDrawn {w w' : World} (h : Drawn0 w w') : Since w w' := ⟨h.below⟩
theorem Since.set {w w1 : World} (h : Since w w1) {p : Addr} (hp : w.heap.size ≤ p.block) (v : Value) : Since w (w1.setCell p v) := ⟨h.b.setCell hp v⟩

def formsL : List S44 := (code_forms.f).getD []
theorem forms_eq : code_forms.f = some formsL := rfl

set_option maxHeartbeats 2000000 in
set_option maxRecDepth 100000 in
theorem find1_calls (W : World) (b : Nat) (op : ByteArray) (hb : W.cell? ⟨b, 0, none⟩ = some (.string op)) (x : S44) :
    Calls Try.prog 26 #[.agg #[.string x.f0, .int .i64 x.f1, .int .i64 x.f2, .int .i64 x.f3, .int .i64 x.f4, .int .i64 x.f5, .int .i64 x.f6], .pointer (some ⟨b, 0, none⟩)] W fun e w' => e = .returned (.bool (x.f0.toList == op.toList)) ∧ Since W w' := by
  have hs := (Since.refl W).alloc (.cells #[.string x.f0, .int .i64 x.f1, .int .i64 x.f2, .int .i64 x.f3, .int .i64 x.f4, .int .i64 x.f5, .int .i64 x.f6] 44)
  have hb' := pw_cell_below hs.b hb
  go_enter Try.func26, Try.ntmps26
  go_wp2
  go_ret
  exact ⟨rfl, hs⟩

/-- The first place with an op. -/
def idxF (op : ByteArray) (L : List S44) : Nat := L.findIdx fun x => x.f0.toList == op.toList
theorem idxF_hit {op : ByteArray} {L : List S44} {i : Nat} (hi : i < L.length) (hle : i ≤ idxF op L) (h : (L[i].f0.toList == op.toList) = true) : idxF op L = i := by
  rcases Nat.lt_or_eq_of_le hle with h1 | h1
  · exact absurd (List.not_of_lt_findIdx h1) (by rw [h]; decide)
  · exact h1.symm
theorem idxF_next {op : ByteArray} {L : List S44} {i : Nat} (hi : i < L.length) (hle : i ≤ idxF op L) (h : (L[i].f0.toList == op.toList) = false) : i + 1 ≤ idxF op L := by
  rcases Nat.lt_or_eq_of_le hle with h1 | h1
  · exact h1
  · exfalso
    have h2 : idxF op L < L.length := by omega
    have h3 : ((L[idxF op L]'h2).f0.toList == op.toList) = true := List.findIdx_getElem (w := h2)
    simp only [← h1] at h3
    rw [h] at h3
    cases h3
set_option maxHeartbeats 4000000 in
set_option maxRecDepth 100000 in
theorem idx_form (W : World) (A : Option Addr) (c : Nat) (L : List S44) (hC : Kd.C k44 W A L.length L) (hL : L.length ≤ 1000) (b : Nat) (op : ByteArray) (hb : W.cell? ⟨b, 0, none⟩ = some (.string op)) :
    Calls Try.prog 25 #[.slice A L.length c, .func (.func 26) #[] #[.pointer (some ⟨b, 0, none⟩)]] W fun e w' => e = .returned (.int .i64 (if idxF op L < L.length then (idxF op L : Int) else -1)) ∧ Since W w' := by
  obtain ⟨n, hn⟩ : ∃ n, n = L.length := ⟨_, rfl⟩
  have HN := Aside0.mk hn
  have hn1 : n ≤ 1000 := by omega
  have HC := Aside0.mk hC
  have HB := Aside0.mk hb
  obtain ⟨r, hr⟩ : ∃ r : Int, r = (if idxF op L < L.length then (idxF op L : Int) else -1) := ⟨_, rfl⟩
  rw [← hr]
  have HR := Aside0.mk hr
  rw [← hn] at HC ⊢
  clear hC hb hn hL hr
  go_enter Try.func25, Try.ntmps25
  go_wp2_with fail
  go_loopg [8] n (fun gk v8 wr => ∃ i : Nat, v8 = .int .i64 (i : Int) ∧ Aside0 (i + gk = n) ∧ Aside0 (i ≤ idxF op L) ∧ Aside0 (Since W wr))
  case atStart => exact ⟨0, rfl, ⟨by omega⟩, ⟨Nat.zero_le _⟩, ⟨Since.refl _⟩⟩
  case round =>
    obtain ⟨i, rfl, HI, HF, HS⟩ := hrel
    by_cases hi : i < n
    · have hid : decide (i < n) = true := decide_eq_true hi
      have hii : (i : Int) < (n : Int) := by omega
      obtain ⟨ad, rfl, d0, d1, d2, d3, d4, d5, d6⟩ := at_T44 (Kd.C_below HC.out HS.out.b) (i : Int) (by omega) (by omega)
      obtain ⟨x, hx⟩ : ∃ x, x = rd_T44 L (i : Int) := ⟨_, rfl⟩
      rw [← hx] at d0 d1 d2 d3 d4 d5 d6
      simp only [Int.toNat_natCast] at d0 d1 d2 d3 d4 d5 d6
      have HX := Aside0.mk hx
      have hCl := Aside0.mk (find1_calls wr b op (pw_cell_below HS.out.b HB.out) x)
      obtain ⟨q, hq⟩ : ∃ q, q = (x.f0.toList == op.toList) := ⟨_, rfl⟩
      rw [← hq] at hCl
      have HQ := Aside0.mk hq
      clear hx hq
      cases q with
      | true =>
        go_wp2_with (first
          | (go_at_call 26; refine hCl.out.mono ?_; rintro e w4 ⟨rfl, hs4⟩; have HS4 := Aside0.mk (HS.out.trans hs4); clear hs4))
        go_ret
        have hx := HX.out
        have hxi : x = L[i]'(by rw [← HN.out]; exact hi) := by rw [hx]; simp [rd_T44, HN.out ▸ hi]
        have e := idxF_hit (by rw [← HN.out]; exact hi) HF.out (by rw [← hxi]; exact HQ.out.symm)
        have := HR.out
        rw [e, if_pos (by rw [← HN.out]; exact hi)] at this
        exact ⟨by rw [this]; rfl, HS4.out⟩
      | false =>
        go_wp2_with (first
          | (go_at_call 26; refine hCl.out.mono ?_; rintro e w4 ⟨rfl, hs4⟩; have HS4 := Aside0.mk (HS.out.trans hs4); clear hs4))
        obtain ⟨k2, hk2⟩ : ∃ k2, k2 = gk - 1 := ⟨_, rfl⟩
        go_roundg k2
        case measure => have := HI.out; omega
        case rel =>
          have hx := HX.out
          have hxi : x = L[i]'(by rw [← HN.out]; exact hi) := by rw [hx]; simp [rd_T44, HN.out ▸ hi]
          exact ⟨i + 1, by go_num, ⟨by have := HI.out; omega⟩, ⟨idxF_next (by rw [← HN.out]; exact hi) HF.out (by rw [← hxi]; exact HQ.out.symm)⟩, HS4⟩
    · have hid : decide (i < n) = false := decide_eq_false hi
      have hii : ¬ (i : Int) < (n : Int) := by omega
      go_wp2
      go_ret
      have : n ≤ idxF op L := by have := HI.out; have := HF.out; omega
      have h2 := HR.out
      rw [if_neg (by have := HN.out; omega)] at h2
      exact ⟨by rw [h2]; rfl, HS.out⟩

/-- The place of an op's form; what find hands back. -/
def plL (L : List S44) (op : ByteArray) : Int := if idxF op L < L.length then (idxF op L : Int) else -1
def fmL (L : List S44) (op : ByteArray) : S44 := if idxF op L < L.length then rd_T44 L (idxF op L : Int) else z44
def agF (x : S44) : Value := .agg #[.string x.f0, .int .i64 x.f1, .int .i64 x.f2, .int .i64 x.f3, .int .i64 x.f4, .int .i64 x.f5, .int .i64 x.f6]
theorem cell_of_heap {w : World} {g : Nat} {cur : Array Value} {t : TypeId} (h : w.heap[g]? = some (.cells cur t (0, 0))) (j : Nat) : w.cell? ⟨g, j, none⟩ = cur[j]? := by
  simp [World.cell?, h]
theorem free_of_heap {w : World} {g : Nat} {cur : Array Value} {t : TypeId} (h : w.heap[g]? = some (.cells cur t (0, 0))) (j : Nat) : w.frozen? ⟨g, j, none⟩ = false := by
  simp [World.frozen?, h]
theorem blk {w w' : World} (h : Below w.heap.size w w') {k : Nat} {o : Obj} (e : w.heap[k]? = some o) : w'.heap[k]? = some o := (h.block k (Array.getElem?_eq_some_iff.1 e).1).trans e
set_option maxHeartbeats 1000000 in
set_option maxRecDepth 100000 in
theorem find_gen (L : List S44) (hL : code_forms.f = some L) (hL1 : L.length ≤ 1000) (W : World) (op : ByteArray) :
    Calls Try.prog 14 #[.string op] W fun e w' => e = .returned (.tuple #[agF (fmL L op), .int .i64 (plL L op)]) ∧ Since W w' := by
  have hF := fun w => code_forms.calls L w hL
  obtain ⟨pl, hpl⟩ : ∃ r, r = plL L op := ⟨_, rfl⟩
  rw [← hpl]
  obtain ⟨V, hV⟩ : ∃ V, V = (W.alloc (.cells #[.string op] 9)).alloc (.cells #[.string ⟨#[]⟩, .int .i64 0, .int .i64 0, .int .i64 0, .int .i64 0, .int .i64 0, .int .i64 0] 44) := ⟨_, rfl⟩
  have HVV := Aside0.mk hV
  have SV := Aside0.mk (show Since W V by rw [hV]; exact ((Since.refl W).alloc _).alloc _)
  have b0 := Aside0.mk (show V.heap[W.heap.size]? = some (.cells #[.string op] 9 (0, 0)) by
    rw [hV]; exact (Below.heap_alloc _ _ _ (by simp)).trans (heap_alloc_new W _))
  have b1 := Aside0.mk (show V.heap[W.heap.size + 1]? = some (.cells #[.string ⟨#[]⟩, .int .i64 0, .int .i64 0, .int .i64 0, .int .i64 0, .int .i64 0, .int .i64 0] 44 (0, 0)) by
    have h := heap_alloc_new (W.alloc (.cells #[.string op] 9)) (.cells #[.string ⟨#[]⟩, .int .i64 0, .int .i64 0, .int .i64 0, .int .i64 0, .int .i64 0, .int .i64 0] 44)
    rw [World.size_alloc] at h
    rw [hV]; exact h)
  have hI := Aside0.mk (fun (w : World) (A : Option Addr) (c : Nat) (hs : Since V w) (hC : Kd.C k44 w A L.length L) => show Calls Try.prog 25 #[.slice A L.length c, .func (.func 26) #[] #[.pointer (some ⟨W.heap.size, 0, none⟩)]] w (fun e w' => e = .returned (.int .i64 pl) ∧ Since w w') by
    rw [hpl]
    exact idx_form w A c L hC hL1 W.heap.size op ((cell_of_heap (blk hs.b b0.out) 0).trans rfl))
  obtain ⟨y, hy⟩ : ∃ y, y = fmL L op := ⟨_, rfl⟩
  rw [← hy]
  by_cases h : idxF op L < L.length
  · have e : pl = (idxF op L : Int) := by rw [hpl, plL, if_pos h]
    have ef : y = rd_T44 L pl := by rw [hy, fmL, if_pos h, e]
    have hneg : ¬ pl < 0 := by omega
    have HE := Aside0.mk (And.intro e ef)
    have hlt : pl < (L.length : Int) := by omega
    obtain ⟨n, hn⟩ : ∃ n, n = L.length := ⟨_, rfl⟩
    have HN := Aside0.mk hn
    rw [← hn] at hlt hI
    clear e ef h hy hpl hV hL1 hL hn
    go_enter Try.func14, Try.ntmps14
    go_wp2_with (first
      | (go_at_call 24; rw [← HVV.out]; refine (hF _).mono ?_; rintro e w1 ⟨v, rfl, hR, hb⟩; obtain ⟨A, c, rfl, hl, hC⟩ := Kd.R_reads hR; rw [← HN.out] at hC ⊢; have HC := Aside0.mk hC; have S1 := Aside0.mk (Since.mk hb); clear hR hC hb hl)
      | (go_at_call 25; refine (hI.out _ _ _ S1.out HC.out).mono ?_; rintro e w2 ⟨rfl, hs2⟩; have S2 := Aside0.mk (S1.out.trans hs2); obtain ⟨ad, rfl, d0, d1, d2, d3, d4, d5, d6⟩ := at_T44 (Kd.C_below HC.out hs2.b) pl (by omega) (by omega); rw [← HE.out.2] at d0 d1 d2 d3 d4 d5 d6; have hB := blk S2.out.b b1.out; have HB := Aside0.mk hB; have c0 : w2.cell? ⟨W.heap.size + 1, 0, none⟩ = some (.string ⟨#[]⟩) := (cell_of_heap hB 0).trans rfl; have c1 : w2.cell? ⟨W.heap.size + 1, 1, none⟩ = some (.int .i64 0) := (cell_of_heap hB 1).trans rfl; have c2 : w2.cell? ⟨W.heap.size + 1, 2, none⟩ = some (.int .i64 0) := (cell_of_heap hB 2).trans rfl; have c3 : w2.cell? ⟨W.heap.size + 1, 3, none⟩ = some (.int .i64 0) := (cell_of_heap hB 3).trans rfl; have c4 : w2.cell? ⟨W.heap.size + 1, 4, none⟩ = some (.int .i64 0) := (cell_of_heap hB 4).trans rfl; have c5 : w2.cell? ⟨W.heap.size + 1, 5, none⟩ = some (.int .i64 0) := (cell_of_heap hB 5).trans rfl; have c6 : w2.cell? ⟨W.heap.size + 1, 6, none⟩ = some (.int .i64 0) := (cell_of_heap hB 6).trans rfl; have f0 := free_of_heap hB 0; have f1 := free_of_heap hB 1; have f2 := free_of_heap hB 2; have f3 := free_of_heap hB 3; have f4 := free_of_heap hB 4; have f5 := free_of_heap hB 5; have f6 := free_of_heap hB 6; clear hB hs2 b0 b1))
    exact bodyPost_ret (v := .tuple #[agF y, .int .i64 pl]) (by simp [results, Try.results14, go_sem, agF, c0, c1, c2, c3, c4, c5, c6]) rfl ⟨rfl, (((((((SV.out.trans S2.out).set (by simp) _).set (by simp) _).set (by simp) _).set (by simp) _).set (by simp) _).set (by simp) _).set (by simp) _⟩
  · have e : pl = -1 := by rw [hpl, plL, if_neg h]
    have ef : y = z44 := by rw [hy, fmL, if_neg h]
    obtain ⟨n, hn⟩ : ∃ n, n = L.length := ⟨_, rfl⟩
    have HN := Aside0.mk hn
    rw [← hn] at hI
    subst e ef
    clear h hy hpl hV hL1 hL hn
    go_enter Try.func14, Try.ntmps14
    go_wp2_with (first
      | (go_at_call 24; rw [← HVV.out]; refine (hF _).mono ?_; rintro e w1 ⟨v, rfl, hR, hb⟩; obtain ⟨A, c, rfl, hl, hC⟩ := Kd.R_reads hR; rw [← HN.out] at hC ⊢; have HC := Aside0.mk hC; have S1 := Aside0.mk (Since.mk hb); clear hR hC hb hl)
      | (go_at_call 25; refine (hI.out _ _ _ S1.out HC.out).mono ?_; rintro e w2 ⟨rfl, hs2⟩; have S2 := Aside0.mk (S1.out.trans hs2); have hB := blk S2.out.b b1.out; have HB := Aside0.mk hB; have c0 : w2.cell? ⟨W.heap.size + 1, 0, none⟩ = some (.string ⟨#[]⟩) := (cell_of_heap hB 0).trans rfl; have c1 : w2.cell? ⟨W.heap.size + 1, 1, none⟩ = some (.int .i64 0) := (cell_of_heap hB 1).trans rfl; have c2 : w2.cell? ⟨W.heap.size + 1, 2, none⟩ = some (.int .i64 0) := (cell_of_heap hB 2).trans rfl; have c3 : w2.cell? ⟨W.heap.size + 1, 3, none⟩ = some (.int .i64 0) := (cell_of_heap hB 3).trans rfl; have c4 : w2.cell? ⟨W.heap.size + 1, 4, none⟩ = some (.int .i64 0) := (cell_of_heap hB 4).trans rfl; have c5 : w2.cell? ⟨W.heap.size + 1, 5, none⟩ = some (.int .i64 0) := (cell_of_heap hB 5).trans rfl; have c6 : w2.cell? ⟨W.heap.size + 1, 6, none⟩ = some (.int .i64 0) := (cell_of_heap hB 6).trans rfl; have f0 := free_of_heap hB 0; have f1 := free_of_heap hB 1; have f2 := free_of_heap hB 2; have f3 := free_of_heap hB 3; have f4 := free_of_heap hB 4; have f5 := free_of_heap hB 5; have f6 := free_of_heap hB 6; clear hB hs2 b0 b1))
    exact bodyPost_ret (v := .tuple #[agF z44, .int .i64 (-1)]) (by simp [results, Try.results14, go_sem, agF, z44, c0, c1, c2, c3, c4, c5, c6]) rfl ⟨rfl, (((((((SV.out.trans S2.out).set (by simp) _).set (by simp) _).set (by simp) _).set (by simp) _).set (by simp) _).set (by simp) _).set (by simp) _⟩

theorem forms_len : formsL.length = 19 := by decide +kernel
def plF (op : ByteArray) : Int := plL formsL op
def fmF (op : ByteArray) : S44 := fmL formsL op
theorem find_calls (W : World) (op : ByteArray) :
    Calls Try.prog 14 #[.string op] W fun e w' => e = .returned (.tuple #[agF (fmF op), .int .i64 (plF op)]) ∧ Since W w' :=
  find_gen formsL forms_eq (by rw [forms_len]; omega) W op

end Go.Proofs.Ytdecgknnbegobaa.Cd

namespace Go.Proofs.Ytdecgknnbegobaa.Cd
open Go.RowKit Go.Lib Go.Proofs.Ytdecgknnbegobaa.D Go.Proofs.YtdecgknnbegobaaW.PrintWords Go.Proofs.YtdecgknnbegobaaW.PrintLast Go.Proofs.YtdecgknnbegobaaW.PrintMore
set_option linter.unusedVariables false
set_option linter.unusedSimpArgs false

theorem width_pos (s : ByteArray) (pos : Nat) (h : pos < s.size) : 1 ≤ (Utf8.decode s pos).2 := by
  by_cases ha : (s[pos]'h).toNat < 128
  · rw [decode_ascii s pos h ha]
    exact Nat.le_refl _
  · exact (decode_high s pos h (by omega)).2
/-- May a rune stand there? -/
def okR (pos : Nat) (r : Int) : Bool := (r == 95 || (decide (r ≥ 97) && decide (r ≤ 122)) || (decide (r ≥ 65) && decide (r ≤ 90))) || (!(pos == 0) && !decide (r < 48) && !decide (r > 57))
def wdR : Nat → ByteArray → Nat → Bool
  | 0, _, _ => false
  | b + 1, s, pos => if pos < s.size then (if okR pos ((Utf8.decode s pos).1 : Int) then wdR b s (pos + (Utf8.decode s pos).2) else false) else (!s.toList.isEmpty && decide ((s.size : Int) ≤ 64))
def wordB (s : ByteArray) : Bool := wdR (s.size + 1) s 0

theorem wdR_no {b : Nat} {s : ByteArray} {pos : Nat} (hp : pos < s.size) (hk : okR pos ((Utf8.decode s pos).1 : Int) = false) : wdR b s pos = false := by
  cases b with
  | zero => rfl
  | succ b => simp only [wdR, if_pos hp, hk]; rfl
theorem wdR_yes {b : Nat} {s : ByteArray} {pos : Nat} {q : Bool} (hp : pos < s.size) (hk : okR pos ((Utf8.decode s pos).1 : Int) = true) (h : wdR b s pos = q ∧ s.size < pos + b ∧ 1 ≤ b) : ∃ b', wdR b' s (pos + (Utf8.decode s pos).2) = q ∧ s.size < pos + (Utf8.decode s pos).2 + b' ∧ 1 ≤ b' := by
  obtain ⟨h1, h2⟩ := h
  have := width_pos s pos hp
  cases b with
  | zero => omega
  | succ b =>
    refine ⟨b, ?_, by omega, by omega⟩
    rw [← h1]
    simp only [wdR, if_pos hp, hk, if_true]
theorem wdR_end {b : Nat} {s : ByteArray} {pos : Nat} {q : Bool} (hp : ¬ pos < s.size) (h : wdR b s pos = q ∧ s.size < pos + b ∧ 1 ≤ b) : q = (!s.toList.isEmpty && decide ((s.size : Int) ≤ 64)) := by
  obtain ⟨h1, h2⟩ := h
  rw [← h1]
  cases b with
  | zero => omega
  | succ b => simp only [wdR, if_neg hp]
set_option maxHeartbeats 4000000 in
set_option maxRecDepth 100000 in
theorem word_calls (s : ByteArray) (w : World) :
    Calls Try.prog 51 #[.string s] w fun e w' => e = .returned (.bool (wordB s)) ∧ Since w w' := by
  obtain ⟨q, hq⟩ : ∃ q, q = wordB s := ⟨_, rfl⟩
  rw [← hq]
  have HQ := Aside0.mk hq
  clear hq
  go_enter Try.func51, Try.ntmps51
  go_wp2_with fail
  go_loopw [] (fun w' => ∃ (pos b : Nat), w' = w.iter s pos ∧ Aside0 (wdR b s pos = q ∧ s.size < pos + b ∧ 1 ≤ b)) (fun w' => s.size - w'.iterPos w.heap.size)
  case atStart => exact ⟨0, s.size + 1, rfl, ⟨HQ.out.symm, by omega, by omega⟩⟩
  case round =>
    obtain ⟨pos, b, rfl, HI⟩ := hrel
    by_cases hp : pos < s.size
    · have hnx : ∀ ty, (Instr.next (.pointer (some ⟨w.heap.size, 0, none⟩)) true ty).run Try.prog (w.iter s pos) = _ := fun ty => run_next_any w s pos ty hp
      have hwd := width_pos s pos hp
      obtain ⟨r, hr⟩ : ∃ r : Nat, r = (Utf8.decode s pos).1 := ⟨_, rfl⟩
      rw [← hr] at hnx
      have HR := Aside0.mk hr
      clear hr
      obtain ⟨k, hk⟩ : ∃ k, k = okR pos (r : Int) := ⟨_, rfl⟩
      have HK := Aside0.mk hk
      clear hk
      have hp0 : pos = 0 ∨ 0 < pos := by omega
      rcases (by omega : r < 48 ∨ (48 ≤ r ∧ r ≤ 57) ∨ (58 ≤ r ∧ r ≤ 64) ∨ (65 ≤ r ∧ r ≤ 90) ∨ (91 ≤ r ∧ r ≤ 94) ∨ r = 95 ∨ r = 96 ∨ (97 ≤ r ∧ r ≤ 122) ∨ 122 < r) with hr | hr | hr | hr | hr | hr | hr | hr | hr
      all_goals rcases hp0 with hp0 | hp0
      all_goals
        first | (have t1 : ((r : Int) == 95) = true := by (simp; omega)) | (have t1 : ((r : Int) == 95) = false := by (simp; omega))
        first | (have t2 : (97 : Int) ≤ r := by omega) | (have t2 : ¬ (97 : Int) ≤ r := by omega)
        first | (have t3 : (r : Int) ≤ 122 := by omega) | (have t3 : ¬ (r : Int) ≤ 122 := by omega)
        first | (have t4 : (65 : Int) ≤ r := by omega) | (have t4 : ¬ (65 : Int) ≤ r := by omega)
        first | (have t5 : (r : Int) ≤ 90 := by omega) | (have t5 : ¬ (r : Int) ≤ 90 := by omega)
        first | (have t6 : (r : Int) < 48 := by omega) | (have t6 : ¬ (r : Int) < 48 := by omega)
        first | (have t7 : (57 : Int) < r := by omega) | (have t7 : ¬ (57 : Int) < r := by omega)
        first | (have t8 : ((pos : Int) == 0) = true := by (simp; omega)) | (have t8 : ((pos : Int) == 0) = false := by (simp; omega))
        first | (have HKK := Aside0.mk (show k = true by rw [HK.out]; simp [okR]; omega)) | (have HKK := Aside0.mk (show k = false by rw [HK.out]; simp [okR]; omega))
        clear hr hp0
        go_wp2_with fail
      all_goals
        first
        | (have hno := wdR_no (b := b) hp (by rw [← HR.out, ← HK.out]; exact HKK.out); rw [HI.out.1] at hno; subst hno; go_ret; exact ⟨rfl, (Since.refl w).alloc _⟩)
        | (obtain ⟨b', hb'⟩ := wdR_yes hp (by rw [← HR.out, ← HK.out]; exact HKK.out) HI.out; go_roundw; (case rel => exact ⟨_, b', rfl, ⟨hb'⟩⟩); (case measure => simp; omega))
    · have hnx : ∀ ty, (Instr.next (.pointer (some ⟨w.heap.size, 0, none⟩)) true ty).run Try.prog (w.iter s pos) = _ := fun ty => run_next_end w s pos ty hp
      have he := wdR_end hp HI.out
      have HE := Aside0.mk he
      clear HI he
      cases hE : s.toList.isEmpty with
      | true =>
        go_wp2
        go_ret
        exact ⟨by rw [HE.out, hE]; rfl, (Since.refl w).alloc _⟩
      | false =>
        by_cases h64 : (s.size : Int) ≤ 64
        all_goals
          go_wp2
          go_ret
        · exact ⟨by rw [HE.out, hE, decide_eq_true h64]; rfl, (Since.refl w).alloc _⟩
        · exact ⟨by rw [HE.out, hE, decide_eq_false (by omega : ¬ (s.size : Int) ≤ 64)]; rfl, (Since.refl w).alloc _⟩

theorem wordB_len {s : ByteArray} (h : wordB s = true) : s.size ≤ 64 := by
  have key : ∀ (b pos : Nat), wdR b s pos = true → s.size ≤ 64 := by
    intro b
    induction b with
    | zero => intro pos h; simp [wdR] at h
    | succ b ih =>
      intro pos h
      by_cases hp : pos < s.size
      · by_cases hk : okR pos ((Utf8.decode s pos).1 : Int) = true
        · simp only [wdR, if_pos hp, hk, if_true] at h
          exact ih _ h
        · simp only [wdR, if_pos hp, hk] at h
          simp at h
      · simp only [wdR, if_neg hp] at h
        simp at h
        omega
  exact key _ _ h

end Go.Proofs.Ytdecgknnbegobaa.Cd

namespace Go.Proofs.Ytdecgknnbegobaa.Cd
open Go.RowKit Go.Lib Go.Proofs.Ytdecgknnbegobaa.D Go.Proofs.YtdecgknnbegobaaW.PrintWords Go.Proofs.YtdecgknnbegobaaW.PrintLast Go.Proofs.YtdecgknnbegobaaW.PrintMore
set_option linter.unusedVariables false
set_option linter.unusedSimpArgs false

set_option maxHeartbeats 4000000 in
set_option maxRecDepth 100000 in
theorem may_calls (s : ByteArray) (W : World) :
    Calls Try.prog 49 #[.agg #[.int .i64 3, .int .i64 0, .string s, .slice none 0 0], .int .i64 0] W fun e w' => e = .returned (.bool (wordB s)) ∧ Since W w' := by
  have hW := fun w => word_calls s w
  cases hq : wordB s with
  | true =>
    rw [hq] at hW
    go_enter Try.func49, Try.ntmps49
    go_wp2_with (go_at_call 51; refine (hW _).mono ?_; rintro e w1 ⟨rfl, hs1⟩; have S1 := Aside0.mk (Since.trans ((Since.refl W).alloc (.cells #[.int .i64 3, .int .i64 0, .string s, .slice none 0 0] 93)) hs1); have c3 : w1.cell? ⟨W.heap.size, 3, none⟩ = some (.slice none 0 0) := (cell_of_heap (blk hs1.b (heap_alloc_new W (.cells #[.int .i64 3, .int .i64 0, .string s, .slice none 0 0] 93))) 3).trans rfl; clear hs1)
    go_loopg [61] 0 (fun gk v61 wr => v61 = .int .i64 0 ∧ wr = w1)
    case atStart => exact ⟨rfl, rfl⟩
    case round =>
      obtain ⟨rfl, rfl⟩ := hrel
      go_wp2_with fail
      go_ret
      exact ⟨rfl, S1.out⟩
  | false =>
    rw [hq] at hW
    go_enter Try.func49, Try.ntmps49
    go_wp2_with (go_at_call 51; refine (hW _).mono ?_; rintro e w1 ⟨rfl, hs1⟩; have S1 := Aside0.mk (Since.trans ((Since.refl W).alloc (.cells #[.int .i64 3, .int .i64 0, .string s, .slice none 0 0] 93)) hs1); clear hs1)
    go_ret
    exact ⟨rfl, S1.out⟩

set_option maxHeartbeats 4000000 in
set_option maxRecDepth 100000 in
theorem tright_calls (s : ByteArray) (W : World) :
    Calls Try.prog 46 #[.agg #[.int .i64 3, .int .i64 0, .string s, .slice none 0 0]] W fun e w' => e = .returned (.bool (wordB s)) ∧ Since W w' := by
  have hM := fun w => may_calls s w
  have hL := fun w => term_left.calls 2 3 0 s none 0 [] 1024 1023 w (Kd.C_nil k93 w) (Nat.le_refl 0) (by simp [term_left.f, term_left.l0, wrap64])
  obtain ⟨q, hq⟩ : ∃ q, q = wordB s := ⟨_, rfl⟩
  rw [← hq] at hM ⊢
  clear hq
  go_enter Try.func46, Try.ntmps46
  go_wp2_with (first
    | (go_at_call 48; refine (hL _).mono ?_; rintro e w1 ⟨rfl, hb1⟩; have S1 := Aside0.mk (Since.step ((Since.refl W).alloc (.cells #[.int .i64 3, .int .i64 0, .string s, .slice none 0 0] 93)) hb1); have hB := blk hb1 (heap_alloc_new W (.cells #[.int .i64 3, .int .i64 0, .string s, .slice none 0 0] 93)); have d0 : w1.cell? ⟨W.heap.size, 0, none⟩ = some (.int .i64 3) := (cell_of_heap hB 0).trans rfl; have d1 : w1.cell? ⟨W.heap.size, 1, none⟩ = some (.int .i64 0) := (cell_of_heap hB 1).trans rfl; have d2 : w1.cell? ⟨W.heap.size, 2, none⟩ = some (.string s) := (cell_of_heap hB 2).trans rfl; have d3 : w1.cell? ⟨W.heap.size, 3, none⟩ = some (.slice none 0 0) := (cell_of_heap hB 3).trans rfl; clear hB hb1)
    | (go_at_call 49; refine (hM _).mono ?_; rintro e w2 ⟨rfl, hs2⟩; have S2 := Aside0.mk (S1.out.trans hs2); clear hs2))
  go_ret
  exact ⟨rfl, S2.out⟩

set_option maxHeartbeats 4000000 in
set_option maxRecDepth 100000 in
theorem cword_calls (s : ByteArray) (W : World) :
    Calls Try.prog 41 #[.string s] W fun e w' => e = .returned (.bool (wordB s)) ∧ Since W w' := by
  have hR := fun w => tright_calls s w
  go_enter Try.func41, Try.ntmps41
  go_wp2_with (go_at_call 46; refine (hR _).mono ?_; rintro e w1 ⟨rfl, hs1⟩)
  go_ret
  exact ⟨rfl, hs1⟩

end Go.Proofs.Ytdecgknnbegobaa.Cd

namespace Go.Proofs.Ytdecgknnbegobaa.Cd
open Go.RowKit Go.Lib Go.Proofs.Ytdecgknnbegobaa.D Go.Proofs.YtdecgknnbegobaaW.PrintWords Go.Proofs.YtdecgknnbegobaaW.PrintLast Go.Proofs.YtdecgknnbegobaaW.PrintMore
set_option linter.unusedVariables false
set_option linter.unusedSimpArgs false

theorem li_ex (s : ByteArray) (x : Int) (hs : s.size ≤ 9223372036854775807) : ∀ n k : Nat, n ≤ s.size → n + 1 ≤ k → ∃ r : Int, bytealg_LastIndexByteString.l0 k s x ((n : Int) - 1) = some r ∧ -1 ≤ r ∧ r < n := by
  intro n
  induction n with
  | zero =>
    intro k _ hk
    obtain ⟨k, rfl⟩ : ∃ j, k = j + 1 := ⟨k - 1, by omega⟩
    refine ⟨-1, ?_, by omega, by omega⟩
    simp only [bytealg_LastIndexByteString.l0]
    rw [if_neg (by omega)]
  | succ n ih =>
    intro k hn hk
    obtain ⟨k, rfl⟩ : ∃ j, k = j + 1 := ⟨k - 1, by omega⟩
    have e : ((n + 1 : Nat) : Int) - 1 = n := by omega
    simp only [bytealg_LastIndexByteString.l0, e]
    rw [if_pos (by omega), if_pos (by omega), if_pos (by omega)]
    by_cases h : bt s n = x
    · rw [if_pos h]
      exact ⟨n, rfl, by omega, by omega⟩
    · rw [if_neg h]
      obtain ⟨r, h1, h2, h3⟩ := ih k (by omega) (by omega)
      exact ⟨r, by rw [show wrap64 ((n : Int) - 1) = (n : Int) - 1 from by unfold wrap64; omega]; exact h1, h2, by omega⟩
def liI (s : ByteArray) : Int := (strings_LastIndexByte.f (s.size + 2) s 47).getD (-1)
theorem liI_spec (s : ByteArray) (hs : s.size ≤ 9223372036854775807) : strings_LastIndexByte.f (s.size + 2) s 47 = some (liI s) ∧ -1 ≤ liI s ∧ liI s < s.size := by
  obtain ⟨r, h1, h2, h3⟩ := li_ex s 47 hs s.size (s.size + 2) (Nat.le_refl _) (by omega)
  have e : strings_LastIndexByte.f (s.size + 2) s 47 = some r := by
    unfold strings_LastIndexByte.f bytealg_LastIndexByteString.f
    rw [show wrap64 ((s.size : Int) - 1) = (s.size : Int) - 1 from by unfold wrap64; omega, h1]
    rfl
  have : liI s = r := by unfold liI; rw [e]; rfl
  exact ⟨by rw [this]; exact e, by omega, by omega⟩

/-- How many parts a match's text tells. -/
def partsO (s : ByteArray) : Option Int := if liI s < 0 ∨ (s.size : Int) ≠ liI s + 2 ∨ bt s (liI s + 1) < 48 ∨ bt s (liI s + 1) > 56 ∨ wordB (s.extract 0 (liI s).toNat) = false then none else some (bt s (liI s + 1) - 48)

set_option maxHeartbeats 4000000 in
set_option maxRecDepth 100000 in
theorem parts_calls (s : ByteArray) (hs : s.size ≤ 9223372036854775800) (W : World) :
    Calls Try.prog 42 #[.string s] W fun e w' => e = .returned (match partsO s with | none => .tuple #[.int .i64 0, .bool false] | some k => .tuple #[.int .i64 k, .bool true]) ∧ Since W w' := by
  obtain ⟨hl, hl1, hl2⟩ := liI_spec s (by omega)
  have hL := fun w => strings_LastIndexByte.calls _ s 47 _ w hl
  obtain ⟨i, hi⟩ : ∃ i, i = liI s := ⟨_, rfl⟩
  rw [← hi] at hL hl1 hl2
  have hW := fun w => cword_calls (s.extract 0 i.toNat) w
  by_cases h1 : i < 0
  · have e : partsO s = none := by unfold partsO; rw [if_pos (.inl (by omega))]
    rw [e]
    clear e hl hi
    go_enter Try.func42, Try.ntmps42
    go_wp2_with (first
      | (go_at_call 47; refine (hL _).mono ?_; rintro e w1 ⟨rfl, ⟨m, rfl⟩⟩))
    go_ret2
    exact ⟨rfl, (Since.refl W).drewN _⟩
  · by_cases h2 : (s.size : Int) = i + 2
    · have hd1 : decide (i < 0) = false := decide_eq_false h1
      have hw1 : wrap64 (i + 1) = i + 1 := by unfold wrap64; omega
      have hw2 : wrap64 (i + 2) = i + 2 := by unfold wrap64; omega
      have hne : ((s.size : Int) != i + 2) = false := by simp [h2]
      have hlt : (i + 1).toNat < s.size := by omega
      obtain ⟨c, hc⟩ : ∃ c, (s[(i + 1).toNat]'hlt).toNat = c := ⟨_, rfl⟩
      have hb : bt s (i + 1) = (c : Int) := by unfold bt; rw [dif_pos hlt, hc]
      have e0 : partsO s = if (c : Int) < 48 ∨ (c : Int) > 56 ∨ wordB (s.extract 0 i.toNat) = false then none else some ((c : Int) - 48) := by
        unfold partsO
        rw [← hi, hb]
        by_cases hh : (c : Int) < 48 ∨ (c : Int) > 56 ∨ wordB (s.extract 0 i.toNat) = false
        · rw [if_pos hh, if_pos (.inr (.inr hh))]
        · rw [if_neg hh, if_neg (by rintro (h | h | h); exact h1 h; exact h h2; exact hh h)]
      rw [e0]
      have hc8 : c < 256 := by rw [← hc]; exact (s[(i + 1).toNat]'hlt).toNat_lt
      clear e0 hl hi hb
      by_cases h3 : (c : Int) < 48
      · rw [if_pos (.inl h3)]
        go_enter Try.func42, Try.ntmps42
        go_wp2_with (first
          | (go_at_call 47; refine (hL _).mono ?_; rintro e w1 ⟨rfl, ⟨m, rfl⟩⟩)
          | (go_at_call 41; refine (hW _).mono ?_; rintro e w2 ⟨rfl, hs2⟩))
        go_ret2
        exact ⟨rfl, (Since.refl W).drewN _⟩
      · by_cases h4 : 56 < (c : Int)
        · rw [if_pos (.inr (.inl h4))]
          go_enter Try.func42, Try.ntmps42
          go_wp2_with (first
          | (go_at_call 47; refine (hL _).mono ?_; rintro e w1 ⟨rfl, ⟨m, rfl⟩⟩)
          | (go_at_call 41; refine (hW _).mono ?_; rintro e w2 ⟨rfl, hs2⟩))
          go_ret2
          exact ⟨rfl, (Since.refl W).drewN _⟩
        · cases hq : wordB (s.extract 0 i.toNat) with
          | false =>
            rw [hq] at hW
            rw [if_pos (.inr (.inr rfl))]
            go_enter Try.func42, Try.ntmps42
            go_wp2_with (first
          | (go_at_call 47; refine (hL _).mono ?_; rintro e w1 ⟨rfl, ⟨m, rfl⟩⟩)
          | (go_at_call 41; refine (hW _).mono ?_; rintro e w2 ⟨rfl, hs2⟩))
            go_ret2
            exact ⟨rfl, ((Since.refl W).drewN _).trans hs2⟩
          | true =>
            rw [hq] at hW
            rw [if_neg (by rintro (h | h | h); exact h3 h; exact h4 h; exact absurd h (by decide))]
            have hm : ((c : Int) - 48) % 256 = (c : Int) - 48 := by omega
            go_enter Try.func42, Try.ntmps42
            go_wp2_with (first
          | (go_at_call 47; refine (hL _).mono ?_; rintro e w1 ⟨rfl, ⟨m, rfl⟩⟩)
          | (go_at_call 41; refine (hW _).mono ?_; rintro e w2 ⟨rfl, hs2⟩))
            go_ret2
            exact ⟨rfl, ((Since.refl W).drewN _).trans hs2⟩
    · have e : partsO s = none := by unfold partsO; rw [if_pos (.inr (.inl (by rw [← hi]; exact h2)))]
      rw [e]
      have hw2 : wrap64 (i + 2) = i + 2 := by unfold wrap64; omega
      have hne : ((s.size : Int) != i + 2) = true := by simp [h2]
      clear e hl hi
      go_enter Try.func42, Try.ntmps42
      go_wp2_with (first
        | (go_at_call 47; refine (hL _).mono ?_; rintro e w1 ⟨rfl, ⟨m, rfl⟩⟩))
      go_ret2
      exact ⟨rfl, (Since.refl W).drewN _⟩

end Go.Proofs.Ytdecgknnbegobaa.Cd

namespace Go.Proofs.Ytdecgknnbegobaa.Cd
open Go.RowKit Go.Lib Go.Proofs.Ytdecgknnbegobaa.D Go.Proofs.YtdecgknnbegobaaW.PrintWords Go.Proofs.YtdecgknnbegobaaW.PrintLast Go.Proofs.YtdecgknnbegobaaW.PrintMore
set_option linter.unusedVariables false
set_option linter.unusedSimpArgs false

theorem ix_ex (l : List ByteArray) (s : ByteArray) (hl : l.length ≤ 1000) : ∀ n i k : Nat, i + n = l.length → n + 1 ≤ k → ∃ r : Int, slices_Index_string_string.l0 k l s (l.length : Int) (i : Int) = some r ∧ (r ≥ 0 ↔ ∃ x ∈ l.drop i, s.toList = x.toList) := by
  intro n
  induction n with
  | zero =>
    intro i k hi hk
    obtain ⟨k, rfl⟩ : ∃ j, k = j + 1 := ⟨k - 1, by omega⟩
    refine ⟨-1, ?_, ?_⟩
    · simp only [slices_Index_string_string.l0]
      rw [if_neg (by omega)]
    · rw [List.drop_eq_nil_of_le (by omega)]
      simp
  | succ n ih =>
    intro i k hi hk
    obtain ⟨k, rfl⟩ : ∃ j, k = j + 1 := ⟨k - 1, by omega⟩
    have hil : i < l.length := by omega
    have e : rdOf ByteArray.empty l (i : Int) = l[i] := by simp [rdOf, hil]
    have hd : l.drop i = l[i] :: l.drop (i + 1) := List.drop_eq_getElem_cons hil
    simp only [slices_Index_string_string.l0, e]
    rw [if_pos (by omega), if_pos (by omega), if_pos (by omega)]
    by_cases h : s.toList = l[i].toList
    · rw [if_pos h]
      exact ⟨i, rfl, ⟨fun _ => ⟨l[i], by rw [hd]; exact List.mem_cons_self, h⟩, fun _ => by omega⟩⟩
    · rw [if_neg h]
      obtain ⟨r, h1, h2⟩ := ih (i + 1) k (by omega) (by omega)
      refine ⟨r, by rw [show wrap64 ((i : Int) + 1) = ((i + 1 : Nat) : Int) from by unfold wrap64; omega]; exact h1, ?_⟩
      rw [h2]
      constructor
      · rintro ⟨x, hx, e⟩
        exact ⟨x, by rw [hd]; exact List.mem_cons_of_mem _ hx, e⟩
      · rintro ⟨x, hx, e⟩
        rw [hd] at hx
        rcases List.mem_cons.1 hx with rfl | hx
        · exact absurd e h
        · exact ⟨x, hx, e⟩
def hasT (l : List ByteArray) (s : ByteArray) : Bool := decide (∃ x ∈ l, s.toList = x.toList)
theorem hasT_is (l : List ByteArray) (s : ByteArray) (hl : l.length ≤ 1000) : slices_Contains_string_string.f (l.length + 1) l s = some (hasT l s) := by
  obtain ⟨r, h1, h2⟩ := ix_ex l s hl l.length 0 (l.length + 1) (by omega) (by omega)
  unfold slices_Contains_string_string.f slices_Index_string_string.f
  have h1' : slices_Index_string_string.l0 (l.length + 1) l s (l.length : Int) 0 = some r := h1
  rw [h1']
  show some (decide (r ≥ 0)) = some (hasT l s)
  unfold hasT
  congr 1
  have : (r ≥ 0) ↔ ∃ x ∈ l, s.toList = x.toList := by simpa using h2
  by_cases h : r ≥ 0
  · rw [decide_eq_true h, decide_eq_true (this.1 h)]
  · rw [decide_eq_false h, decide_eq_false (fun hh => h (this.2 hh))]
theorem C_strings {w : World} {b : Nat} {t : TypeId} {l : List ByteArray} (h : w.heap[b]? = some (.cells (l.map Value.string).toArray t (0, 0))) (hl : l.length ≤ 1000) : Kd.C Kd.string w (some ⟨b, 0, none⟩) l.length l := by
  refine ⟨rfl, by omega, fun _ => ⟨⟨b, 0, none⟩, rfl, fun j p hj => ?_⟩⟩
  refine ⟨[.string p], rfl, rfl, fun i u hu => ?_⟩
  have hi : i = 0 := by
    have := (List.getElem?_eq_some_iff.1 hu).1
    simp at this
    exact this
  subst hi
  simp at hu
  subst hu
  have e : (⟨b, 0, none⟩ : Addr).add (j * Kd.string.sz + 0) = ⟨b, j, none⟩ := by
    show (⟨b, 0, none⟩ : Addr).add (j * 1 + 0) = _
    unfold Addr.add
    by_cases hj0 : j = 0 <;> simp [hj0]
  have hc := cell_of_heap h j
  rw [show ((l.map Value.string).toArray)[j]? = some (.string p) from by simp [hj]] at hc
  rw [e]; exact hc

def opsT : List ByteArray := [⟨#[43]⟩, ⟨#[45]⟩, ⟨#[42]⟩, ⟨#[47]⟩, ⟨#[37]⟩]
def cmpT : List ByteArray := [⟨#[61]⟩, ⟨#[33, 61]⟩, ⟨#[60]⟩, ⟨#[60, 61]⟩, ⟨#[62]⟩, ⟨#[62, 61]⟩]
def textB (kind : Int) (s : ByteArray) : Bool := if kind = 1 then decide ((s.size : Int) ≤ 65536) else if kind = 2 then hasT opsT s else if kind = 3 then hasT cmpT s else if kind = 4 then wordB s else if kind = 5 then (partsO s).isSome else s.toList.isEmpty

set_option maxHeartbeats 4000000 in
set_option maxRecDepth 100000 in
theorem texts_calls (kind : Int) (s : ByteArray) (hs : s.size ≤ 9223372036854775800) (W : World) :
    Calls Try.prog 35 #[.int .i64 kind, .string s] W fun e w' => e = .returned (.bool (textB kind s)) ∧ Since W w' := by
  by_cases h1 : kind = 1
  · subst h1
    have e : textB 1 s = decide ((s.size : Int) ≤ 65536) := by unfold textB; rw [if_pos rfl]
    rw [e]
    go_enter Try.func35, Try.ntmps35
    go_wp2_with fail
    go_ret
    exact ⟨rfl, Since.refl _⟩
  by_cases h2 : kind = 2
  · subst h2
    have e : textB 2 s = hasT opsT s := by unfold textB; rw [if_neg (by decide), if_pos rfl]
    rw [e]
    go_enter Try.func35, Try.ntmps35
    go_wp2_with (go_at_call 40; refine (slices_Contains_string_string.calls (opsT.length + 1) _ 5 opsT s _ _ (C_strings (l := opsT) (heap_alloc_new W (.cells (opsT.map Value.string).toArray 9)) (by decide)) (by decide) (hasT_is opsT s (by decide))).mono ?_; rintro e1 w1 ⟨rfl, ⟨m, rfl⟩⟩)
    go_ret
    exact ⟨rfl, ((Since.refl W).alloc _).drewN _⟩
  by_cases h3 : kind = 3
  · subst h3
    have e : textB 3 s = hasT cmpT s := by unfold textB; rw [if_neg (by decide), if_neg (by decide), if_pos rfl]
    rw [e]
    go_enter Try.func35, Try.ntmps35
    go_wp2_with (go_at_call 40; refine (slices_Contains_string_string.calls (cmpT.length + 1) _ 6 cmpT s _ _ (C_strings (l := cmpT) (heap_alloc_new W (.cells (cmpT.map Value.string).toArray 9)) (by decide)) (by decide) (hasT_is cmpT s (by decide))).mono ?_; rintro e1 w1 ⟨rfl, ⟨m, rfl⟩⟩)
    go_ret
    exact ⟨rfl, ((Since.refl W).alloc _).drewN _⟩
  by_cases h4 : kind = 4
  · subst h4
    have e : textB 4 s = wordB s := by unfold textB; rw [if_neg (by decide), if_neg (by decide), if_neg (by decide), if_pos rfl]
    rw [e]
    go_enter Try.func35, Try.ntmps35
    go_wp2_with (go_at_call 41; refine (cword_calls s _).mono ?_; rintro e1 w1 ⟨rfl, hs1⟩)
    go_ret
    exact ⟨rfl, hs1⟩
  by_cases h5 : kind = 5
  · subst h5
    have e : textB 5 s = (partsO s).isSome := by unfold textB; rw [if_neg (by decide), if_neg (by decide), if_neg (by decide), if_neg (by decide), if_pos rfl]
    rw [e]
    have hP := parts_calls s hs
    cases hq : partsO s with
    | none =>
      rw [hq] at hP
      go_enter Try.func35, Try.ntmps35
      go_wp2_with (go_at_call 42; refine (hP _).mono ?_; rintro e1 w1 ⟨rfl, hs1⟩)
      go_ret
      exact ⟨rfl, hs1⟩
    | some k =>
      rw [hq] at hP
      go_enter Try.func35, Try.ntmps35
      go_wp2_with (go_at_call 42; refine (hP _).mono ?_; rintro e1 w1 ⟨rfl, hs1⟩)
      go_ret
      exact ⟨rfl, hs1⟩
  · have e : textB kind s = s.toList.isEmpty := by unfold textB; rw [if_neg h1, if_neg h2, if_neg h3, if_neg h4, if_neg h5]
    rw [e]
    have b1 : (kind == 1) = false := by simpa using h1
    have b2 : (kind == 2) = false := by simpa using h2
    have b3 : (kind == 3) = false := by simpa using h3
    have b4 : (kind == 4) = false := by simpa using h4
    have b5 : (kind == 5) = false := by simpa using h5
    go_enter Try.func35, Try.ntmps35
    go_wp2_with fail
    go_ret
    exact ⟨rfl, Since.refl _⟩

end Go.Proofs.Ytdecgknnbegobaa.Cd

namespace Go.Proofs.Ytdecgknnbegobaa.Cd
open Go.RowKit Go.Lib Go.Maps Go.Proofs.Ytdecgknnbegobaa.D Go.Proofs.YtdecgknnbegobaaW.PrintWords Go.Proofs.YtdecgknnbegobaaW.PrintLast Go.Proofs.YtdecgknnbegobaaW.PrintMore
set_option linter.unusedVariables false
set_option linter.unusedSimpArgs false

abbrev Dm := DataW Unit
def kLit (a : Int) : Lit := .int .i64 a
/-- Has a slot a relation, and which? -/
def hasD (D : Dm) (a : Int) : Bool := Maps.has D (kLit a)
def atD (D : Dm) (a : Int) : Int := match D.atKey (kLit a) (.lit (.int .i64 0)) with | .lit (.int _ n) => n | _ => 0
theorem lawK : Keyed Try.prog 3 := int_keyed Try.underlying3
theorem zeroK (w : World) : (zeroValue 3).run Try.prog w = .ok (.int .i64 0) w := by kernel_rfl

/-- What a checker keeps, in the block bw. -/
structure Ck (w0 w : World) (bw bm : Nat) (A0 : Option Addr) (c0 : Nat) (ws : List Int) (rg : Int) (A2 : Option Addr) (n2 c2 : Nat) (n : Nat) (D : Dm) (ve vj : Value) (ev : List Bool) (jm : List Int) : Prop where
  since : Since w0 w
  hw : w0.heap.size ≤ bw
  hm : w0.heap.size ≤ bm
  blk : w.heap[bw]? = some (.cells #[.slice A0 ws.length c0, .int .i64 rg, .slice A2 n2 c2, .map (some bm), ve, vj] 63 (0, 0))
  W : Kd.C (Kd.int .i64) w0 A0 ws.length ws
  le : ws.length ≤ c0
  l128 : ws.length ≤ 128
  w8 : ∀ v ∈ ws, 0 ≤ v ∧ v ≤ 8
  r256 : 0 ≤ rg ∧ rg ≤ 256
  map : w.ownsMap Try.prog 3 (plainElem Try.prog 3) bm n D
  ok : ∀ a, hasD D a = true → 0 ≤ atD D a ∧ atD D a < ws.length
  he : w.ownsRow w0.heap.size 4 1 ve ev.length (ev.map Value.bool)
  hj : w.ownsRow w0.heap.size 3 1 vj jm.length (jm.map (Value.int .i64))

section
variable {w0 w : World} {bw bm : Nat} {A0 : Option Addr} {c0 : Nat} {ws : List Int} {rg : Int} {A2 : Option Addr} {n2 c2 : Nat} {n : Nat} {D : Dm} {ve vj : Value} {ev : List Bool} {jm : List Int}
theorem Ck.c (h : Ck w0 w bw bm A0 c0 ws rg A2 n2 c2 n D ve vj ev jm) : w.cell? ⟨bw, 0, none⟩ = some (.slice A0 ws.length c0) ∧ w.cell? ⟨bw, 1, none⟩ = some (.int .i64 rg) ∧ w.cell? ⟨bw, 3, none⟩ = some (.map (some bm)) ∧ w.cell? ⟨bw, 4, none⟩ = some ve ∧ w.cell? ⟨bw, 5, none⟩ = some vj :=
  ⟨(cell_of_heap h.blk 0).trans rfl, (cell_of_heap h.blk 1).trans rfl, (cell_of_heap h.blk 3).trans rfl, (cell_of_heap h.blk 4).trans rfl, (cell_of_heap h.blk 5).trans rfl⟩
theorem Ck.go (h : Ck w0 w bw bm A0 c0 ws rg A2 n2 c2 n D ve vj ev jm) {w' : World} (hs : Since w w') : Ck w0 w' bw bm A0 c0 ws rg A2 n2 c2 n D ve vj ev jm := by
  have hg : w.grownBy w' none := ⟨hs.b.os, hs.b.tape, hs.b.output, hs.b.size, fun k hk _ => hs.b.block k hk⟩
  exact ⟨h.since.trans hs, h.hw, h.hm, Cd.blk hs.b h.blk, h.W, h.le, h.l128, h.w8, h.r256, h.map.kept hg (by simp), h.ok, own_move h.he fun k hk => hs.b.block k (own_lt h.he k hk), own_move h.hj fun k hk => hs.b.block k (own_lt h.hj k hk)⟩

set_option maxHeartbeats 1000000 in
set_option maxRecDepth 100000 in
theorem isRel_calls (h : Ck w0 w bw bm A0 c0 ws rg A2 n2 c2 n D ve vj ev jm) (k : Int) :
    Calls Try.prog 39 #[.pointer (some ⟨bw, 0, none⟩), .int .i64 k] w fun e w' => e = .returned (.bool (decide (0 ≤ k ∧ k < ws.length))) ∧ Since w w' := by
  obtain ⟨d0, _⟩ := h.c
  obtain ⟨m, hm⟩ : ∃ m, m = ws.length := ⟨_, rfl⟩
  rw [← hm] at d0 ⊢
  clear hm h
  by_cases h1 : 0 ≤ k
  · by_cases h2 : k < (m : Int)
    · rw [decide_eq_true ⟨h1, h2⟩]
      go_enter Try.func39, Try.ntmps39
      go_wp2
      go_ret
      exact ⟨rfl, Since.refl _⟩
    · rw [decide_eq_false (fun hh => h2 hh.2)]
      go_enter Try.func39, Try.ntmps39
      go_wp2
      go_ret
      exact ⟨rfl, Since.refl _⟩
  · rw [decide_eq_false (fun hh => h1 hh.1)]
    go_enter Try.func39, Try.ntmps39
    go_wp2
    go_ret
    exact ⟨rfl, Since.refl _⟩

def agI (x : S39) : Value := .agg #[.string x.f0, .int .i64 x.f1, .int .i64 x.f2, .int .i64 x.f3, .string x.f4]
def isOp (s : ByteArray) (l : List UInt8) : Bool := s.toList == l
/-- How many registers an instruction writes. -/
def behO (ws : List Int) (D : Dm) (x : S39) : Option Int := if isOp x.f0 [109, 97, 116, 99, 104] then partsO x.f4 else if hasD D x.f1 then some (ws.getD (atD D x.f1).toNat 0) else none

set_option maxHeartbeats 1000000 in
set_option maxRecDepth 100000 in
theorem behind_calls (h : Ck w0 w bw bm A0 c0 ws rg A2 n2 c2 n D ve vj ev jm) (x : S39) (hx : x.f4.size ≤ 9223372036854775800) (hA : isOp x.f0 [109, 97, 116, 99, 104] = false → 0 ≤ x.f1 ∧ x.f1 < 64) :
    Calls Try.prog 38 #[.pointer (some ⟨bw, 0, none⟩), agI x] w fun e w' => e = .returned (match behO ws D x with | none => .tuple #[.int .i64 0, .bool false] | some k => .tuple #[.int .i64 k, .bool true]) ∧ Since w w' := by
  obtain ⟨V, hV⟩ : ∃ V, V = w.alloc (.cells #[.string x.f0, .int .i64 x.f1, .int .i64 x.f2, .int .i64 x.f3, .string x.f4] 39) := ⟨_, rfl⟩
  have S0 := Aside0.mk (show Since w V by rw [hV]; exact (Since.refl w).alloc _)
  have HV := Aside0.mk hV
  have hB : V.heap[w.heap.size]? = some (.cells #[.string x.f0, .int .i64 x.f1, .int .i64 x.f2, .int .i64 x.f3, .string x.f4] 39 (0, 0)) := by rw [hV]; exact heap_alloc_new w _
  have x0 : V.cell? ⟨w.heap.size, 0, none⟩ = some (.string x.f0) := (cell_of_heap hB 0).trans rfl
  have x1 : V.cell? ⟨w.heap.size, 1, none⟩ = some (.int .i64 x.f1) := (cell_of_heap hB 1).trans rfl
  have x4 : V.cell? ⟨w.heap.size, 4, none⟩ = some (.string x.f4) := (cell_of_heap hB 4).trans rfl
  have hP := fun w => parts_calls x.f4 hx w
  show Calls Try.prog 38 #[.pointer (some ⟨bw, 0, none⟩), .agg #[.string x.f0, .int .i64 x.f1, .int .i64 x.f2, .int .i64 x.f3, .string x.f4]] w _
  cases hq : isOp x.f0 [109, 97, 116, 99, 104] with
  | true =>
    have e : behO ws D x = partsO x.f4 := by unfold behO; rw [hq]; rfl
    rw [e]
    have hq' : (x.f0.toList == [109, 97, 116, 99, 104]) = true := hq
    cases hp : partsO x.f4 with
    | none =>
      rw [hp] at hP
      clear hp e hq h hA hV hB
      go_enter Try.func38, Try.ntmps38
      go_wp2_with (go_at_call 42; rw [← HV.out]; refine (hP _).mono ?_; rintro e1 w1 ⟨rfl, hs1⟩)
      all_goals go_ret2
      all_goals exact ⟨rfl, S0.out.trans hs1⟩
    | some k =>
      rw [hp] at hP
      clear hp e hq h hA hV hB
      go_enter Try.func38, Try.ntmps38
      go_wp2_with (go_at_call 42; rw [← HV.out]; refine (hP _).mono ?_; rintro e1 w1 ⟨rfl, hs1⟩)
      all_goals go_ret2
      all_goals exact ⟨rfl, S0.out.trans hs1⟩
  | false =>
    have hq' : (x.f0.toList == [109, 97, 116, 99, 104]) = false := hq
    obtain ⟨d0, _, d3, _⟩ := (h.go S0.out).c
    have hmap := ((h.go S0.out).map).drew
    have hA1 := hA hq
    have hk : keyOf Try.prog 3 (.int .i64 x.f1) = some (kLit x.f1) := keyOf_int_mk Try.underlying3 (WalkArith.wf_i64 (by omega))
    obtain ⟨v, ps, hrun, hv⟩ := hmap.look_ok lawK Try.underlying60 (zeroK _) (plainElem_int Try.underlying3 (by decide)) hk
    obtain ⟨c, rfl, hc, hwc⟩ := plainElem_int_inv Try.underlying3 hv
    have hca : atD D x.f1 = c := by
      unfold atD
      rw [show D.atKey (kLit x.f1) (.lit (.int .i64 0)) = .lit (.int .i64 c) from congrArg Prod.fst hc]
    cases hh : hasD D x.f1 with
    | true =>
      have hok := h.ok _ hh
      rw [hca] at hok
      have hhh : Maps.has D (kLit x.f1) = true := hh
      rw [hhh] at hrun
      have e : behO ws D x = some (ws.getD c.toNat 0) := by unfold behO; rw [hq, hh, hca]; rfl
      rw [e]
      obtain ⟨m, hm⟩ : ∃ m, m = ws.length := ⟨_, rfl⟩
      have HW := Aside0.mk (show Kd.C (Kd.int .i64) V A0 m ws by rw [hm]; exact Kd.C_below h.W (h.since.trans S0.out).b)
      rw [← hm] at d0 hok
      obtain ⟨c1, c2⟩ := hok
      obtain ⟨r, hr⟩ : ∃ r, r = ws.getD c.toNat 0 := ⟨_, rfl⟩
      rw [← hr]
      obtain ⟨ad, cs, rfl, hl, hK, hcl⟩ := Kd.C_get HW.out (0 : Int) c (by omega) (by omega)
      rw [← hr] at hK
      have hce : cs = [.int .i64 r] := hK
      subst hce
      have hcell : V.cell? (ad.add c.toNat) = some (.int .i64 r) := by simpa [Kd.int, Kd.scalar] using hcl 0 _ rfl
      clear e hq h hA hV hB hm hr hmap hk hv hc hca hh hhh hcl
      go_enter Try.func38, Try.ntmps38
      go_wp2
      rw [← HV.out]
      go_region
      all_goals go_wp2_with fail
      all_goals go_ret2
      all_goals exact ⟨rfl, S0.out.drew⟩
    | false =>
      have hhh : Maps.has D (kLit x.f1) = false := hh
      rw [hhh] at hrun
      have e : behO ws D x = none := by unfold behO; rw [hq, hh]; rfl
      rw [e]
      clear e hq h hA hV hB hmap hk hv hc hca hh hhh
      go_enter Try.func38, Try.ntmps38
      go_wp2
      rw [← HV.out]
      go_region
      all_goals go_wp2_with fail
      all_goals go_ret2
      all_goals exact ⟨rfl, S0.out.drew⟩
end
end Go.Proofs.Ytdecgknnbegobaa.Cd

namespace Go.Proofs.Ytdecgknnbegobaa.Cd
open Go.RowKit Go.Lib Go.Maps Go.Proofs.Ytdecgknnbegobaa.D Go.Proofs.YtdecgknnbegobaaW.PrintWords Go.Proofs.YtdecgknnbegobaaW.PrintLast Go.Proofs.YtdecgknnbegobaaW.PrintMore
set_option linter.unusedVariables false
set_option linter.unusedSimpArgs false

theorem info3 : (Try.prog.info? 3).map (fun i => (i.zero, i.size, i.bytes)) = some (some (.int .i64 0), 1, 8) := by kernel_rfl
theorem info4 : (Try.prog.info? 4).map (fun i => (i.zero, i.size, i.bytes)) = some (some (.bool false), 1, 1) := by kernel_rfl

/-- What is no row, nor a checker, stays. -/
structure KeptT (w w' : World) : Prop where
  size : w.heap.size ≤ w'.heap.size
  same : ∀ (k : Nat) (cells : Array Value) (t : TypeId), t ≠ 3 → t ≠ 4 → t ≠ 63 → w.heap[k]? = some (Obj.cells cells t (0, 0)) → w'.heap[k]? = some (Obj.cells cells t (0, 0))
theorem KeptT.refl (w : World) : KeptT w w := ⟨Nat.le_refl _, fun _ _ _ _ _ _ h => h⟩
theorem KeptT.trans {w w1 w2 : World} (h : KeptT w w1) (g : KeptT w1 w2) : KeptT w w2 := ⟨Nat.le_trans h.size g.size, fun k c t h1 h2 h3 hb => g.same k c t h1 h2 h3 (h.same k c t h1 h2 h3 hb)⟩
theorem KeptT.since {w w1 : World} (h : Since w w1) : KeptT w w1 := ⟨h.b.size, fun k c t _ _ _ hb => Cd.blk h.b hb⟩

/-- May a number be? -/
def numB (ws : List Int) (rg : Int) (D : Dm) (kind n : Int) (x : S39) : Bool :=
  if kind = 1 then true else if kind = 2 then decide (0 ≤ n ∧ n < rg) else if kind = 3 then (match behO ws D x with | none => false | some k => decide (0 ≤ n ∧ n ≤ rg - k)) else if kind = 4 then decide (0 ≤ n ∧ n < ws.length) else if kind = 5 then decide (0 ≤ n ∧ n < 64) else if kind = 6 then decide (0 ≤ n ∧ n / 2 ^ (ws.getD x.f2.toNat 0).toNat = 0) else if kind = 7 then true else if kind = 8 then decide (0 ≤ n ∧ n ≤ 8) else decide (n = 0)
def numJ (kind n : Int) (jm : List Int) : List Int := if kind = 7 then jm ++ [n] else jm

section
variable {w0 w : World} {bw bm : Nat} {A0 : Option Addr} {c0 : Nat} {ws : List Int} {rg : Int} {A2 : Option Addr} {n2 c2 : Nat} {n : Nat} {D : Dm} {ve vj : Value} {ev : List Bool} {jm : List Int}

theorem behO_range (h : Ck w0 w bw bm A0 c0 ws rg A2 n2 c2 n D ve vj ev jm) {x : S39} {k : Int} (hk : behO ws D x = some k) : 0 ≤ k ∧ k ≤ 8 := by
  unfold behO at hk
  split at hk
  · unfold partsO at hk
    split at hk
    · cases hk
    · rename_i hh
      injection hk with hk
      omega
  · split at hk
    · rename_i hh
      injection hk with hk
      have := h.ok _ hh
      have hl : (atD D x.f1).toNat < ws.length := by omega
      have := h.w8 (ws[(atD D x.f1).toNat]) (List.getElem_mem hl)
      rw [show ws.getD (atD D x.f1).toNat 0 = ws[(atD D x.f1).toNat] from by simp [hl]] at hk
      omega
    · cases hk

theorem Ck.mapB (h : Ck w0 w bw bm A0 c0 ws rg A2 n2 c2 n D ve vj ev jm) : ∃ es clock, w.heap[bm]? = some (.map es clock) := by
  obtain ⟨es, clock, hb, _⟩ := h.map
  exact ⟨es, clock, hb⟩
theorem own_neT {w : World} {base e size n : Nat} {v : Value} {xs : List Value} (h : w.ownsRow base e size v n xs) {k : Nat} {o : Obj} (hk : w.heap[k]? = some o) (hne : ∀ cells, o ≠ .cells cells e (0, 0)) : some k ≠ v.ownBlock := by
  intro he
  obtain ⟨cells, hc⟩ := own_typed h k he.symm
  rw [hc] at hk
  injection hk with hk
  exact hne cells hk.symm
/-- A place more. -/
theorem Ck.jump (h : Ck w0 w bw bm A0 c0 ws rg A2 n2 c2 n D ve vj ev jm) {w7 : World} {v1 : Value} {k : Int} (hb : Below w0.heap.size w0 w7) (hg : w.grownBy w7 vj.ownBlock) (ho : w7.ownsRow w0.heap.size 3 1 v1 (jm ++ [k]).length ((jm ++ [k]).map (Value.int .i64))) :
    Ck w0 (w7.setCell ⟨bw, 5, none⟩ v1) bw bm A0 c0 ws rg A2 n2 c2 n D ve v1 ev (jm ++ [k]) ∧ KeptT w (w7.setCell ⟨bw, 5, none⟩ v1) ∧ w7.cell? ⟨bw, 5, none⟩ = some vj ∧ w7.frozen? ⟨bw, 5, none⟩ = false := by
  have nb : some bw ≠ vj.ownBlock := own_neT h.hj h.blk (fun cells e => by injection e with _ e _; exact absurd e (by decide))
  have hbw := (hg.block bw (blk_lt h.blk) nb).trans h.blk
  obtain ⟨es, clock, hmb⟩ := h.mapB
  have nm : some bm ≠ vj.ownBlock := own_neT h.hj hmb (fun cells e => by cases e)
  have nbm : bm ≠ bw := fun e => by rw [e, h.blk] at hmb; cases hmb
  have hset := heap_setCell_same w7 bw 5 _ _ v1 hbw
  have hfar : ∀ k, k ≠ bw → (w7.setCell ⟨bw, 5, none⟩ v1).heap[k]? = w7.heap[k]? := fun k hk => Below.heap_setCell w7 ⟨bw, 5, none⟩ v1 k hk
  refine ⟨⟨⟨hb.setCell (p := ⟨bw, 5, none⟩) h.hw v1⟩, h.hw, h.hm, by simpa using hset, h.W, h.le, h.l128, h.w8, h.r256, (h.map.kept hg nm).setCell nbm v1, h.ok, own_move h.he fun k hk => ?_, own_move ho fun k hk => ?_⟩, ⟨?_, fun k cells t t3 t4 t63 hk => ?_⟩, (cell_of_heap hbw 5).trans rfl, free_of_heap hbw 5⟩
  · obtain ⟨cs, hc⟩ := own_typed h.he k hk
    have n1 : k ≠ bw := fun e => by rw [e, h.blk] at hc; injection hc with hc; injection hc with _ e _; exact absurd e (by decide)
    rw [hfar k n1]
    exact hg.block k (own_lt h.he k hk) (own_neT h.hj hc (fun cells e => by injection e with _ e _; exact absurd e (by decide)))
  · obtain ⟨cs, hc⟩ := own_typed ho k hk
    exact hfar k (fun e => by rw [e, hbw] at hc; injection hc with hc; injection hc with _ e _; exact absurd e (by decide))
  · simpa using hg.size
  · have n1 : k ≠ bw := fun e => by rw [e, h.blk] at hk; injection hk with hk; injection hk with _ e _; exact t63 e.symm
    rw [hfar k n1]
    exact (hg.block k (blk_lt hk) (own_neT h.hj hk (fun cells e => by injection e with _ e _; exact t3 e))).trans hk
/-- Whether it is even there. -/
theorem Ck.even (h : Ck w0 w bw bm A0 c0 ws rg A2 n2 c2 n D ve vj ev jm) {w7 : World} {v1 : Value} {k : Bool} (hb : Below w0.heap.size w0 w7) (hg : w.grownBy w7 ve.ownBlock) (ho : w7.ownsRow w0.heap.size 4 1 v1 (ev ++ [k]).length ((ev ++ [k]).map Value.bool)) :
    Ck w0 (w7.setCell ⟨bw, 4, none⟩ v1) bw bm A0 c0 ws rg A2 n2 c2 n D v1 vj (ev ++ [k]) jm ∧ KeptT w (w7.setCell ⟨bw, 4, none⟩ v1) ∧ w7.cell? ⟨bw, 4, none⟩ = some ve ∧ w7.frozen? ⟨bw, 4, none⟩ = false := by
  have nb : some bw ≠ ve.ownBlock := own_neT h.he h.blk (fun cells e => by injection e with _ e _; exact absurd e (by decide))
  have hbw := (hg.block bw (blk_lt h.blk) nb).trans h.blk
  obtain ⟨es, clock, hmb⟩ := h.mapB
  have nm : some bm ≠ ve.ownBlock := own_neT h.he hmb (fun cells e => by cases e)
  have nbm : bm ≠ bw := fun e => by rw [e, h.blk] at hmb; cases hmb
  have hset := heap_setCell_same w7 bw 4 _ _ v1 hbw
  have hfar : ∀ k, k ≠ bw → (w7.setCell ⟨bw, 4, none⟩ v1).heap[k]? = w7.heap[k]? := fun k hk => Below.heap_setCell w7 ⟨bw, 4, none⟩ v1 k hk
  refine ⟨⟨⟨hb.setCell (p := ⟨bw, 4, none⟩) h.hw v1⟩, h.hw, h.hm, by simpa using hset, h.W, h.le, h.l128, h.w8, h.r256, (h.map.kept hg nm).setCell nbm v1, h.ok, own_move ho fun k hk => ?_, own_move h.hj fun k hk => ?_⟩, ⟨?_, fun k cells t t3 t4 t63 hk => ?_⟩, (cell_of_heap hbw 4).trans rfl, free_of_heap hbw 4⟩
  · obtain ⟨cs, hc⟩ := own_typed ho k hk
    exact hfar k (fun e => by rw [e, hbw] at hc; injection hc with hc; injection hc with _ e _; exact absurd e (by decide))
  · obtain ⟨cs, hc⟩ := own_typed h.hj k hk
    have n1 : k ≠ bw := fun e => by rw [e, h.blk] at hc; injection hc with hc; injection hc with _ e _; exact absurd e (by decide)
    rw [hfar k n1]
    exact hg.block k (own_lt h.hj k hk) (own_neT h.he hc (fun cells e => by injection e with _ e _; exact absurd e (by decide)))
  · simpa using hg.size
  · have n1 : k ≠ bw := fun e => by rw [e, h.blk] at hk; injection hk with hk; injection hk with _ e _; exact t63 e.symm
    rw [hfar k n1]
    exact (hg.block k (blk_lt hk) (own_neT h.he hk (fun cells e => by injection e with _ e _; exact t4 e))).trans hk

/-- What number leaves. -/
def NumR (w0 w : World) (bw bm : Nat) (A0 : Option Addr) (c0 : Nat) (ws : List Int) (rg : Int) (A2 : Option Addr) (n2 c2 n : Nat) (D : Dm) (ve : Value) (ev : List Bool) (jm : List Int) (q : Bool) (e : Ending) (w' : World) : Prop :=
  e = .returned (.bool q) ∧ (∃ vj', Ck w0 w' bw bm A0 c0 ws rg A2 n2 c2 n D ve vj' ev jm) ∧ KeptT w w'

set_option maxHeartbeats 4000000 in
set_option maxRecDepth 100000 in
theorem number_calls (h : Ck w0 w bw bm A0 c0 ws rg A2 n2 c2 n D ve vj ev jm) (hj : jm.length ≤ 100000) (kind k : Int) (x : S39) (hx : x.f4.size ≤ 9223372036854775800) (h3 : kind = 3 → isOp x.f0 [109, 97, 116, 99, 104] = false → 0 ≤ x.f1 ∧ x.f1 < 64) (h6 : kind = 6 → 0 ≤ x.f2 ∧ x.f2 < ws.length) :
    Calls Try.prog 34 #[.pointer (some ⟨bw, 0, none⟩), .int .i64 kind, .int .i64 k, agI x] w (NumR w0 w bw bm A0 c0 ws rg A2 n2 c2 n D ve ev (numJ kind k jm) (numB ws rg D kind k x)) := by
  obtain ⟨V, hV⟩ : ∃ V, V = w.alloc (.cells #[.string x.f0, .int .i64 x.f1, .int .i64 x.f2, .int .i64 x.f3, .string x.f4] 39) := ⟨_, rfl⟩
  have S0 := Aside0.mk (show Since w V by rw [hV]; exact (Since.refl w).alloc _)
  have HV := Aside0.mk hV
  have hB : V.heap[w.heap.size]? = some (.cells #[.string x.f0, .int .i64 x.f1, .int .i64 x.f2, .int .i64 x.f3, .string x.f4] 39 (0, 0)) := by rw [hV]; exact heap_alloc_new w _
  have x0 : V.cell? ⟨w.heap.size, 0, none⟩ = some (.string x.f0) := (cell_of_heap hB 0).trans rfl
  have x1 : V.cell? ⟨w.heap.size, 1, none⟩ = some (.int .i64 x.f1) := (cell_of_heap hB 1).trans rfl
  have x2 : V.cell? ⟨w.heap.size, 2, none⟩ = some (.int .i64 x.f2) := (cell_of_heap hB 2).trans rfl
  have x3 : V.cell? ⟨w.heap.size, 3, none⟩ = some (.int .i64 x.f3) := (cell_of_heap hB 3).trans rfl
  have x4 : V.cell? ⟨w.heap.size, 4, none⟩ = some (.string x.f4) := (cell_of_heap hB 4).trans rfl
  have HC := Aside0.mk (h.go S0.out)
  obtain ⟨d0, d1, d3, d4, d5⟩ := HC.out.c
  obtain ⟨m, hm⟩ : ∃ m, m = ws.length := ⟨_, rfl⟩
  rw [← hm] at d0
  have hr := h.r256
  show Calls Try.prog 34 #[.pointer (some ⟨bw, 0, none⟩), .int .i64 kind, .int .i64 k, .agg #[.string x.f0, .int .i64 x.f1, .int .i64 x.f2, .int .i64 x.f3, .string x.f4]] w _
  have HH := Aside0.mk h
  have H3 := Aside0.mk h3
  have H6 := Aside0.mk h6
  have HM := Aside0.mk hm
  have w0x := hV
  rw [hV] at x0 x1 x2 x3 x4 d0 d1 d3 d4 d5
  clear hV hB h h3 h6 hm w0x
  by_cases k1 : kind = 1
  · subst k1
    have e1 : numB ws rg D 1 k x = true := by unfold numB; rw [if_pos rfl]
    have e2 : numJ 1 k jm = jm := by unfold numJ; rw [if_neg (by decide)]
    rw [e1, e2]
    clear e1 e2
    go_enter Try.func34, Try.ntmps34
    go_wp2_with fail
    rw [← HV.out]
    go_ret
    exact ⟨rfl, ⟨_, HC.out⟩, KeptT.since S0.out⟩
  by_cases k2 : kind = 2
  · subst k2
    have e1 : numB ws rg D 2 k x = decide (0 ≤ k ∧ k < rg) := by unfold numB; rw [if_neg (by decide), if_pos rfl]
    have e2 : numJ 2 k jm = jm := by unfold numJ; rw [if_neg (by decide)]
    rw [e1, e2]
    clear e1 e2
    by_cases p1 : 0 ≤ k
    · by_cases p2 : k < rg
      · rw [decide_eq_true ⟨p1, p2⟩]
        go_enter Try.func34, Try.ntmps34
        go_wp2_with fail
        rw [← HV.out]
        go_ret
        exact ⟨rfl, ⟨_, HC.out⟩, KeptT.since S0.out⟩
      · rw [decide_eq_false (fun hh => p2 hh.2)]
        go_enter Try.func34, Try.ntmps34
        go_wp2_with fail
        rw [← HV.out]
        go_ret
        exact ⟨rfl, ⟨_, HC.out⟩, KeptT.since S0.out⟩
    · rw [decide_eq_false (fun hh => p1 hh.1)]
      go_enter Try.func34, Try.ntmps34
      go_wp2_with fail
      rw [← HV.out]
      go_ret
      exact ⟨rfl, ⟨_, HC.out⟩, KeptT.since S0.out⟩
  by_cases k3 : kind = 3
  · subst k3
    have e1 : numB ws rg D 3 k x = (match behO ws D x with | none => false | some k' => decide (0 ≤ k ∧ k ≤ rg - k')) := by unfold numB; rw [if_neg (by decide), if_neg (by decide), if_pos rfl]
    have e2 : numJ 3 k jm = jm := by unfold numJ; rw [if_neg (by decide)]
    rw [e1, e2]
    clear e1 e2
    have hBe := behind_calls HC.out x hx (H3.out rfl)
    have D1 := Aside0.mk HC.out.c.2.1
    cases hq : behO ws D x with
    | none =>
      rw [hq] at hBe
      clear hq
      go_enter Try.func34, Try.ntmps34
      go_wp2_with (go_at_call 38; rw [← HV.out]; refine hBe.mono ?_; rintro e1 w1 ⟨rfl, hs1⟩; have S1 := Aside0.mk hs1; have b1 := pw_cell_below hs1.b D1.out; clear hs1)
      go_ret
      exact ⟨rfl, ⟨_, HC.out.go S1.out⟩, KeptT.since (S0.out.trans S1.out)⟩
    | some k' =>
      rw [hq] at hBe
      have hk' := behO_range HH.out hq
      have hwr : wrap64 (rg - k') = rg - k' := by unfold wrap64; omega
      clear hq
      show Calls _ _ _ _ (NumR w0 w bw bm A0 c0 ws rg A2 n2 c2 n D ve ev jm (decide (0 ≤ k ∧ k ≤ rg - k')))
      by_cases p1 : 0 ≤ k
      · by_cases p2 : k ≤ rg - k'
        · rw [decide_eq_true ⟨p1, p2⟩]
          have p2' := decide_eq_true p2
          go_enter Try.func34, Try.ntmps34
          go_wp2_with (go_at_call 38; rw [← HV.out]; refine hBe.mono ?_; rintro e1 w1 ⟨rfl, hs1⟩; have S1 := Aside0.mk hs1; have b1 := pw_cell_below hs1.b D1.out; clear hs1)
          go_ret
          exact ⟨rfl, ⟨_, HC.out.go S1.out⟩, KeptT.since (S0.out.trans S1.out)⟩
        · rw [decide_eq_false (fun hh => p2 hh.2)]
          have p2' := decide_eq_false p2
          go_enter Try.func34, Try.ntmps34
          go_wp2_with (go_at_call 38; rw [← HV.out]; refine hBe.mono ?_; rintro e1 w1 ⟨rfl, hs1⟩; have S1 := Aside0.mk hs1; have b1 := pw_cell_below hs1.b D1.out; clear hs1)
          go_ret
          exact ⟨rfl, ⟨_, HC.out.go S1.out⟩, KeptT.since (S0.out.trans S1.out)⟩
      · rw [decide_eq_false (fun hh => p1 hh.1)]
        go_enter Try.func34, Try.ntmps34
        go_wp2_with (go_at_call 38; rw [← HV.out]; refine hBe.mono ?_; rintro e1 w1 ⟨rfl, hs1⟩; have S1 := Aside0.mk hs1; have b1 := pw_cell_below hs1.b D1.out; clear hs1)
        go_ret
        exact ⟨rfl, ⟨_, HC.out.go S1.out⟩, KeptT.since (S0.out.trans S1.out)⟩
  by_cases k4 : kind = 4
  · subst k4
    have e1 : numB ws rg D 4 k x = decide (0 ≤ k ∧ k < ws.length) := by unfold numB; rw [if_neg (by decide), if_neg (by decide), if_neg (by decide), if_pos rfl]
    have e2 : numJ 4 k jm = jm := by unfold numJ; rw [if_neg (by decide)]
    rw [e1, e2]
    clear e1 e2
    have hBe := isRel_calls HC.out k
    obtain ⟨q, hq⟩ : ∃ q, q = decide (0 ≤ k ∧ k < (ws.length : Int)) := ⟨_, rfl⟩
    rw [← hq] at hBe ⊢
    clear hq
    go_enter Try.func34, Try.ntmps34
    go_wp2_with (go_at_call 39; rw [← HV.out]; refine hBe.mono ?_; rintro e1 w1 ⟨rfl, hs1⟩; have S1 := Aside0.mk hs1; clear hs1)
    go_ret
    exact ⟨rfl, ⟨_, HC.out.go S1.out⟩, KeptT.since (S0.out.trans S1.out)⟩
  by_cases k5 : kind = 5
  · subst k5
    have e1 : numB ws rg D 5 k x = decide (0 ≤ k ∧ k < 64) := by unfold numB; rw [if_neg (by decide), if_neg (by decide), if_neg (by decide), if_neg (by decide), if_pos rfl]
    have e2 : numJ 5 k jm = jm := by unfold numJ; rw [if_neg (by decide)]
    rw [e1, e2]
    clear e1 e2
    by_cases p1 : 0 ≤ k
    · by_cases p2 : k < 64
      · rw [decide_eq_true ⟨p1, p2⟩]
        go_enter Try.func34, Try.ntmps34
        go_wp2_with fail
        rw [← HV.out]
        go_ret
        exact ⟨rfl, ⟨_, HC.out⟩, KeptT.since S0.out⟩
      · rw [decide_eq_false (fun hh => p2 hh.2)]
        go_enter Try.func34, Try.ntmps34
        go_wp2_with fail
        rw [← HV.out]
        go_ret
        exact ⟨rfl, ⟨_, HC.out⟩, KeptT.since S0.out⟩
    · rw [decide_eq_false (fun hh => p1 hh.1)]
      go_enter Try.func34, Try.ntmps34
      go_wp2_with fail
      rw [← HV.out]
      go_ret
      exact ⟨rfl, ⟨_, HC.out⟩, KeptT.since S0.out⟩
  by_cases k6 : kind = 6
  · subst k6
    have e1 : numB ws rg D 6 k x = decide (0 ≤ k ∧ k / 2 ^ (ws.getD x.f2.toNat 0).toNat = 0) := by unfold numB; rw [if_neg (by decide), if_neg (by decide), if_neg (by decide), if_neg (by decide), if_neg (by decide), if_pos rfl]
    have e2 : numJ 6 k jm = jm := by unfold numJ; rw [if_neg (by decide)]
    rw [e1, e2]
    clear e1 e2
    have hb := H6.out rfl
    obtain ⟨q, hq⟩ : ∃ q, q = ws.getD x.f2.toNat 0 := ⟨_, rfl⟩
    have hq8 : 0 ≤ q ∧ q ≤ 8 := by
      have hl : x.f2.toNat < ws.length := by omega
      have := HH.out.w8 _ (List.getElem_mem hl)
      rw [hq, show ws.getD x.f2.toNat 0 = ws[x.f2.toNat] from by simp [hl]]
      exact this
    rw [← HM.out] at hb
    obtain ⟨ad, cs, rfl, hl, hK, hcl⟩ := Kd.C_get (show Kd.C (Kd.int .i64) V A0 m ws by rw [HM.out]; exact Kd.C_below HH.out.W (HH.out.since.trans S0.out).b) (0 : Int) x.f2 (by omega) (by omega)
    rw [← hq] at hK ⊢
    have hce : cs = [.int .i64 q] := hK
    subst hce
    have hcell : V.cell? (ad.add x.f2.toNat) = some (.int .i64 q) := by simpa [Kd.int, Kd.scalar] using hcl 0 _ rfl
    rw [HV.out] at hcell
    obtain ⟨hb1, hb2⟩ := hb
    obtain ⟨qn, rfl⟩ := Int.eq_ofNat_of_zero_le hq8.1
    have hq63 : qn ≤ 63 := by omega
    rw [Int.toNat_natCast]
    clear hq hK hcl hl
    by_cases p1 : 0 ≤ k
    · by_cases p2 : k / 2 ^ qn = 0
      · rw [decide_eq_true ⟨p1, p2⟩]
        have p1' := decide_eq_true p1
        have p2' : (k / 2 ^ qn == 0) = true := by simp [p2]
        go_enter Try.func34, Try.ntmps34
        go_wp2
        go_region
        all_goals go_wp2_with fail
        rw [← HV.out]
        go_ret
        exact ⟨rfl, ⟨_, HC.out.go ((Since.refl V).drew)⟩, KeptT.since S0.out.drew⟩
      · rw [decide_eq_false (fun hh => p2 hh.2)]
        have p1' := decide_eq_true p1
        have p2' : (k / 2 ^ qn == 0) = false := by simp [p2]
        go_enter Try.func34, Try.ntmps34
        go_wp2
        go_region
        all_goals go_wp2_with fail
        rw [← HV.out]
        go_ret
        exact ⟨rfl, ⟨_, HC.out.go ((Since.refl V).drew)⟩, KeptT.since S0.out.drew⟩
    · rw [decide_eq_false (fun hh => p1 hh.1)]
      have p1' := decide_eq_false p1
      go_enter Try.func34, Try.ntmps34
      go_wp2
      go_region
      all_goals go_wp2_with fail
      rw [← HV.out]
      go_ret
      exact ⟨rfl, ⟨_, HC.out.go ((Since.refl V).drew)⟩, KeptT.since S0.out.drew⟩
  by_cases k7 : kind = 7
  · subst k7
    have e1 : numB ws rg D 7 k x = true := by unfold numB; rw [if_neg (by decide), if_neg (by decide), if_neg (by decide), if_neg (by decide), if_neg (by decide), if_neg (by decide), if_pos rfl]
    have e2 : numJ 7 k jm = jm ++ [k] := by unfold numJ; rw [if_pos rfl]
    rw [e1, e2]
    clear e1 e2
    obtain ⟨Aj, cj, hvj⟩ := own_slice HC.out.hj
    subst hvj
    have HVS := Aside0.mk (show V.heap.size = w.heap.size + 1 by rw [HV.out]; simp)
    go_enter Try.func34, Try.ntmps34
    go_wp2_with ((with_reducible refine gate_builtin (b := .append) (xs := #[.tmp 88, .tmp 90]) rfl ?_); at_builtin; (rw [← HV.out]; refine print_append (W := V) (w0 := w0) w0.heap.size rfl (.tmp 88) (.tmp 90) 22 3 (.int .i64 0) 8 rfl Try.underlying22 info3 rfl (by decide) (.slice Aj jm.length cj) (jm.map (Value.int .i64)) (.int .i64 k) rfl (by rw [HVS.out]; rfl) rfl ?aO HC.out.since.b HC.out.since.b.size ?aL ?_; (case aO => rw [List.length_map]; exact HC.out.hj); (case aL => rw [List.length_map]; omega); intro v7 w7 q7 b7 g7 t7; have HJ := Aside0.mk (HC.out.jump (k := k) b7 g7 (by simpa using q7)); obtain ⟨A8, c8, hv8⟩ := own_slice q7; subst hv8; have j5 := HJ.out.2.2.1; have f5 := HJ.out.2.2.2; clear q7 b7 g7 t7))
    go_ret
    have hl : (jm.map (Value.int .i64) ++ [Value.int .i64 k]).length = jm.length + 1 := by simp
    rw [hl] at HJ
    exact ⟨rfl, ⟨_, HJ.out.1⟩, (KeptT.since S0.out).trans HJ.out.2.1⟩
  by_cases k8 : kind = 8
  · subst k8
    have e1 : numB ws rg D 8 k x = decide (0 ≤ k ∧ k ≤ 8) := by unfold numB; rw [if_neg (by decide), if_neg (by decide), if_neg (by decide), if_neg (by decide), if_neg (by decide), if_neg (by decide), if_neg (by decide), if_pos rfl]
    have e2 : numJ 8 k jm = jm := by unfold numJ; rw [if_neg (by decide)]
    rw [e1, e2]
    clear e1 e2
    by_cases p1 : 0 ≤ k
    · by_cases p2 : k ≤ 8
      · rw [decide_eq_true ⟨p1, p2⟩]
        go_enter Try.func34, Try.ntmps34
        go_wp2_with fail
        rw [← HV.out]
        go_ret
        exact ⟨rfl, ⟨_, HC.out⟩, KeptT.since S0.out⟩
      · rw [decide_eq_false (fun hh => p2 hh.2)]
        go_enter Try.func34, Try.ntmps34
        go_wp2_with fail
        rw [← HV.out]
        go_ret
        exact ⟨rfl, ⟨_, HC.out⟩, KeptT.since S0.out⟩
    · rw [decide_eq_false (fun hh => p1 hh.1)]
      go_enter Try.func34, Try.ntmps34
      go_wp2_with fail
      rw [← HV.out]
      go_ret
      exact ⟨rfl, ⟨_, HC.out⟩, KeptT.since S0.out⟩
  · have e1 : numB ws rg D kind k x = decide (k = 0) := by unfold numB; rw [if_neg k1, if_neg k2, if_neg k3, if_neg k4, if_neg k5, if_neg k6, if_neg k7, if_neg k8]
    have e2 : numJ kind k jm = jm := by unfold numJ; rw [if_neg k7]
    rw [e1, e2]
    clear e1 e2
    have b1 : (kind == 1) = false := by simpa using k1
    have b2 : (kind == 2) = false := by simpa using k2
    have b3 : (kind == 3) = false := by simpa using k3
    have b4 : (kind == 4) = false := by simpa using k4
    have b5 : (kind == 5) = false := by simpa using k5
    have b6 : (kind == 6) = false := by simpa using k6
    have b7 : (kind == 7) = false := by simpa using k7
    have b8 : (kind == 8) = false := by simpa using k8
    clear k1 k2 k3 k4 k5 k6 k7 k8
    by_cases p : k = 0
    · have p' : (k == 0) = true := by simpa using p
      rw [decide_eq_true p]
      go_enter Try.func34, Try.ntmps34
      go_wp2_with fail
      rw [← HV.out]
      go_ret
      exact ⟨rfl, ⟨_, HC.out⟩, KeptT.since S0.out⟩
    · have p' : (k == 0) = false := by simpa using p
      rw [decide_eq_false p]
      go_enter Try.func34, Try.ntmps34
      go_wp2_with fail
      rw [← HV.out]
      go_ret
      exact ⟨rfl, ⟨_, HC.out⟩, KeptT.since S0.out⟩
end
end Go.Proofs.Ytdecgknnbegobaa.Cd

namespace Go.Proofs.Ytdecgknnbegobaa.Cd
open Go.RowKit Go.Lib Go.Maps Go.Proofs.Ytdecgknnbegobaa.D Go.Proofs.YtdecgknnbegobaaW.PrintWords Go.Proofs.YtdecgknnbegobaaW.PrintLast Go.Proofs.YtdecgknnbegobaaW.PrintMore
set_option linter.unusedVariables false
set_option linter.unusedSimpArgs false

theorem fm_all (P : S44 → Prop) (h : ∀ y ∈ formsL, P y) (hz : P z44) (op : ByteArray) : P (fmF op) := by
  unfold fmF fmL
  split
  · rename_i hl
    have e : rd_T44 formsL (idxF op formsL : Int) = formsL[idxF op formsL] := by simp [rd_T44, hl]
    rw [e]
    exact h _ (List.getElem_mem hl)
  · exact hz
theorem fm_op {op : ByteArray} (h : 0 ≤ plF op) : (fmF op).f0.toList = op.toList := by
  unfold plF plL at h
  unfold fmF fmL
  split at h
  · rename_i hl
    rw [if_pos hl]
    have e : rd_T44 formsL (idxF op formsL : Int) = formsL[idxF op formsL] := by simp [rd_T44, hl]
    rw [e]
    have := List.findIdx_getElem (w := hl)
    exact eq_of_beq this
  · omega
/-- A form's numbers. -/
def formOk (y : S44) : Bool := (decide (y.f3 ≠ 3) && decide (y.f3 ≠ 6) && decide (y.f4 ≠ 3) && decide (y.f4 ≠ 6)) && (decide (y.f5 ≠ 3) || y.f0.toList == [109, 97, 116, 99, 104] || y.f3 == 5) && (decide (y.f5 ≠ 6) || y.f4 == 4) && (decide (-1 ≤ y.f1) && decide (y.f1 ≤ 2) && decide (0 ≤ y.f2) && decide (y.f2 ≤ 1)) &&
  (!(y.f0.toList == [99, 111, 110]) || y.f3 == 8) && (!(y.f0.toList == [111, 112, 101, 110]) || (y.f3 == 5 && y.f4 == 4 && y.f5 == 6)) && (!(y.f0.toList == [104, 97, 115] || y.f0.toList == [110, 111, 116] || y.f0.toList == [112, 117, 116]) || y.f3 == 4) && (!(y.f0.toList == [115, 119, 97, 112] || y.f0.toList == [109, 101, 114, 103, 101]) || (y.f3 == 4 && y.f4 == 4)) && decide (0 ≤ y.f6 ∧ y.f6 ≤ 5)
theorem forms_ok (op : ByteArray) : formOk (fmF op) = true := fm_all (fun y => formOk y = true) (by decide +kernel) (by decide +kernel) op

def onesC (c : Int) : Int := (bits_OnesCount.f (IntKind.u64.wrap c)).getD 0
theorem and_127 (y : Int) : 0 ≤ Go.bits .and .i64 y 127 ∧ Go.bits .and .i64 y 127 ≤ 127 := by
  have e : Go.bits .and .i64 y 127 = (((BitVec.ofInt 64 y).toNat % 128 : Nat) : Int) := by
    show IntKind.i64.wrap ((BitVec.ofInt 64 y &&& BitVec.ofInt 64 127).toNat : Int) = _
    rw [BitVec.toNat_and, show (BitVec.ofInt 64 127).toNat = 2 ^ 7 - 1 from rfl, Nat.and_two_pow_sub_one_eq_mod, IntKind.wrap_i64]
    omega
  rw [e]
  omega
theorem ones_ex (a : Int) : ∃ r, bits_OnesCount.f a = some r ∧ 0 ≤ r ∧ r ≤ 127 := by
  obtain ⟨y, hy⟩ : ∃ y, bits_OnesCount64.f a = some (Go.bits .and .i64 y 127) := ⟨_, by unfold bits_OnesCount64.f; with_reducible rfl⟩
  refine ⟨_, ?_, and_127 y⟩
  unfold bits_OnesCount.f
  rw [hy]
  rfl
theorem onesC_is (c : Int) : bits_OnesCount.f (IntKind.u64.wrap c) = some (onesC c) := by
  obtain ⟨r, h, _⟩ := ones_ex (IntKind.u64.wrap c)
  unfold onesC
  rw [h]
  rfl
theorem onesC_range (c : Int) : 0 ≤ onesC c ∧ onesC c ≤ 127 := by
  obtain ⟨r, h, h1⟩ := ones_ex (IntKind.u64.wrap c)
  unfold onesC
  rw [h]
  exact h1

/-- May an instruction's numbers and text be? -/
def insB (ws : List Int) (rg : Int) (D : Dm) (x : S39) : Bool := !decide (plF x.f0 < 0) && numB ws rg D (fmF x.f0).f3 x.f1 x && numB ws rg D (fmF x.f0).f4 x.f2 x && numB ws rg D (fmF x.f0).f5 x.f3 x && textB (fmF x.f0).f6 x.f4
def insJ (x : S39) (jm : List Int) : List Int := numJ (fmF x.f0).f5 x.f3 (numJ (fmF x.f0).f4 x.f2 (numJ (fmF x.f0).f3 x.f1 jm))
/-- What it takes and puts, and whether it may be; the slots behind it. -/
def insT (ws : List Int) (rg : Int) (D : Dm) (x : S39) : Int × Int × Bool :=
  if insB ws rg D x = false then (0, 0, false)
  else if isOp x.f0 [99, 111, 110] then (x.f1, (fmF x.f0).f2, true)
  else if isOp x.f0 [111, 112, 101, 110] then (onesC x.f3, (fmF x.f0).f2, true)
  else if isOp x.f0 [104, 97, 115] || isOp x.f0 [110, 111, 116] || isOp x.f0 [112, 117, 116] then (ws.getD x.f1.toNat 0, (fmF x.f0).f2, true)
  else if isOp x.f0 [115, 119, 97, 112] || isOp x.f0 [109, 101, 114, 103, 101] then (0, 0, ws.getD x.f1.toNat 0 == ws.getD x.f2.toNat 0)
  else ((fmF x.f0).f1, (fmF x.f0).f2, true)
def insD (x : S39) (D : Dm) : Dm := if isOp x.f0 [111, 112, 101, 110] then D.put (kLit x.f1) (.lit (.int .i64 x.f2)) else D

end Go.Proofs.Ytdecgknnbegobaa.Cd

namespace Go.Proofs.Ytdecgknnbegobaa.Cd
open Go.RowKit Go.Lib Go.Maps Go.Proofs.Ytdecgknnbegobaa.D Go.Proofs.YtdecgknnbegobaaW.PrintWords Go.Proofs.YtdecgknnbegobaaW.PrintLast Go.Proofs.YtdecgknnbegobaaW.PrintMore
set_option linter.unusedVariables false
set_option linter.unusedSimpArgs false

section
variable {w0 w : World} {bw bm : Nat} {A0 : Option Addr} {c0 : Nat} {ws : List Int} {rg : Int} {A2 : Option Addr} {n2 c2 : Nat} {n : Nat} {D : Dm} {ve vj : Value} {ev : List Bool} {jm : List Int}
theorem Since0 {w0 w : World} (h : Ck w0 w bw bm A0 c0 ws rg A2 n2 c2 n D ve vj ev jm) : Since w0 w := h.since
theorem numJ_len (kind n : Int) (jm : List Int) : (numJ kind n jm).length ≤ jm.length + 1 := by
  unfold numJ
  split <;> simp
/-- What a refused instruction leaves. -/
def InsNo (w0 w : World) (e : Ending) (w' : World) : Prop := e = .returned (.tuple #[.int .i64 0, .int .i64 0, .bool false]) ∧ Since w0 w' ∧ KeptT w w'

set_option maxHeartbeats 4000000 in
set_option maxRecDepth 100000 in
theorem instr_no0 (h : Ck w0 w bw bm A0 c0 ws rg A2 n2 c2 n D ve vj ev jm) (hj : jm.length ≤ 50000) (hn : n ≤ 50000) (x : S39) (hx : x.f4.size ≤ 9223372036854775800) (q0 : plF x.f0 < 0) (q1 : True) (q2 : True) (q3 : True) (q4 : True) :
    Calls Try.prog 23 #[.pointer (some ⟨bw, 0, none⟩), agI x] w (InsNo w0 w) := by
  obtain ⟨V, hV⟩ : ∃ V, V = w.alloc (.cells #[.string x.f0, .int .i64 x.f1, .int .i64 x.f2, .int .i64 x.f3, .string x.f4] 39) := ⟨_, rfl⟩
  have S0 := Aside0.mk (show Since w V by rw [hV]; exact (Since.refl w).alloc _)
  have HV := Aside0.mk hV
  have HB := Aside0.mk (show V.heap[w.heap.size]? = some (.cells #[.string x.f0, .int .i64 x.f1, .int .i64 x.f2, .int .i64 x.f3, .string x.f4] 39 (0, 0)) by rw [hV]; exact heap_alloc_new w _)
  have HC := Aside0.mk (h.go S0.out)
  have hok := forms_ok x.f0
  have hop := fun h => fm_op (op := x.f0) h
  have hFind := fun w => find_calls w x.f0
  obtain ⟨f, hf⟩ : ∃ f, f = fmF x.f0 := ⟨_, rfl⟩
  obtain ⟨pl, hpl⟩ : ∃ p, p = plF x.f0 := ⟨_, rfl⟩
  rw [← hf] at hok hop hFind
  rw [← hpl] at hop hFind
  have HFind := Aside0.mk (show ∀ w, Calls Try.prog 14 #[.string x.f0] w (fun e w' => e = .returned (.tuple #[.agg #[.string f.f0, .int .i64 f.f1, .int .i64 f.f2, .int .i64 f.f3, .int .i64 f.f4, .int .i64 f.f5, .int .i64 f.f6], .int .i64 pl]) ∧ Since w w') from hFind)
  have HOK := Aside0.mk hok
  have HOP := Aside0.mk hop
  have HF := Aside0.mk (And.intro hf hpl)
  simp only [formOk, Bool.and_eq_true, Bool.or_eq_true, decide_eq_true_eq] at hok
  obtain ⟨⟨⟨⟨⟨⟨⟨⟨⟨⟨⟨e1, e2⟩, e3⟩, e4⟩, e5⟩, e6⟩, e7⟩, e8⟩, e9⟩, e10⟩, e11⟩, e12⟩ := hok
  have NK := Aside0.mk (And.intro e1 (And.intro e2 (And.intro e3 (And.intro e4 e5))))
  have NE := Aside0.mk (And.intro e6 (And.intro e7 (And.intro e8 (And.intro e9 (And.intro e10 (And.intro e11 e12))))))
  skip
  rw [← hpl] at q0
  have q0' : decide (pl < 0) = true := decide_eq_true q0
  have T1 := True.intro
  have T2 := True.intro
  have T3 := True.intro
  have Q1 := Aside0.mk q1
  have Q2 := Aside0.mk q2
  have Q3 := Aside0.mk q3
  have Q4 := Aside0.mk q4
  have Q0 := Aside0.mk q0
  skip
  clear hV hf hpl h hFind hop e1 e2 e3 e4 e5 e6 e7 e8 e9 e10 e11 e12 q1 q2 q3 q4
  show Calls Try.prog 23 #[.pointer (some ⟨bw, 0, none⟩), .agg #[.string x.f0, .int .i64 x.f1, .int .i64 x.f2, .int .i64 x.f3, .string x.f4]] w _
  go_enter Try.func23, Try.ntmps23
  go_wp2_with (first
      | (go_at_call 14; rw [← HV.out]; refine (HFind.out V).mono ?_; rintro e1 w1 ⟨rfl, hs1⟩; have S1 := Aside0.mk hs1; have BXa := Aside0.mk (blk_alloc (Cd.blk hs1.b HB.out) (.cells #[.string f.f0, .int .i64 f.f1, .int .i64 f.f2, .int .i64 f.f3, .int .i64 f.f4, .int .i64 f.f5, .int .i64 f.f6] 44)); have BFa := Aside0.mk (heap_alloc_new w1 (.cells #[.string f.f0, .int .i64 f.f1, .int .i64 f.f2, .int .i64 f.f3, .int .i64 f.f4, .int .i64 f.f5, .int .i64 f.f6] 44)); have C1 := Aside0.mk (HC.out.go (hs1.alloc (.cells #[.string f.f0, .int .i64 f.f1, .int .i64 f.f2, .int .i64 f.f3, .int .i64 f.f4, .int .i64 f.f5, .int .i64 f.f6] 44))); have xa0 : (w1.alloc (.cells #[.string f.f0, .int .i64 f.f1, .int .i64 f.f2, .int .i64 f.f3, .int .i64 f.f4, .int .i64 f.f5, .int .i64 f.f6] 44)).cell? ⟨w.heap.size, 0, none⟩ = some (.string x.f0) := (cell_of_heap BXa.out 0).trans rfl; have xa1 : (w1.alloc (.cells #[.string f.f0, .int .i64 f.f1, .int .i64 f.f2, .int .i64 f.f3, .int .i64 f.f4, .int .i64 f.f5, .int .i64 f.f6] 44)).cell? ⟨w.heap.size, 1, none⟩ = some (.int .i64 x.f1) := (cell_of_heap BXa.out 1).trans rfl; have xa2 : (w1.alloc (.cells #[.string f.f0, .int .i64 f.f1, .int .i64 f.f2, .int .i64 f.f3, .int .i64 f.f4, .int .i64 f.f5, .int .i64 f.f6] 44)).cell? ⟨w.heap.size, 2, none⟩ = some (.int .i64 x.f2) := (cell_of_heap BXa.out 2).trans rfl; have xa3 : (w1.alloc (.cells #[.string f.f0, .int .i64 f.f1, .int .i64 f.f2, .int .i64 f.f3, .int .i64 f.f4, .int .i64 f.f5, .int .i64 f.f6] 44)).cell? ⟨w.heap.size, 3, none⟩ = some (.int .i64 x.f3) := (cell_of_heap BXa.out 3).trans rfl; have xa4 : (w1.alloc (.cells #[.string f.f0, .int .i64 f.f1, .int .i64 f.f2, .int .i64 f.f3, .int .i64 f.f4, .int .i64 f.f5, .int .i64 f.f6] 44)).cell? ⟨w.heap.size, 4, none⟩ = some (.string x.f4) := (cell_of_heap BXa.out 4).trans rfl; have fa1 : (w1.alloc (.cells #[.string f.f0, .int .i64 f.f1, .int .i64 f.f2, .int .i64 f.f3, .int .i64 f.f4, .int .i64 f.f5, .int .i64 f.f6] 44)).cell? ⟨w1.heap.size, 1, none⟩ = some (.int .i64 f.f1) := (cell_of_heap BFa.out 1).trans rfl; have fa2 : (w1.alloc (.cells #[.string f.f0, .int .i64 f.f1, .int .i64 f.f2, .int .i64 f.f3, .int .i64 f.f4, .int .i64 f.f5, .int .i64 f.f6] 44)).cell? ⟨w1.heap.size, 2, none⟩ = some (.int .i64 f.f2) := (cell_of_heap BFa.out 2).trans rfl; have fa3 : (w1.alloc (.cells #[.string f.f0, .int .i64 f.f1, .int .i64 f.f2, .int .i64 f.f3, .int .i64 f.f4, .int .i64 f.f5, .int .i64 f.f6] 44)).cell? ⟨w1.heap.size, 3, none⟩ = some (.int .i64 f.f3) := (cell_of_heap BFa.out 3).trans rfl; have fa4 : (w1.alloc (.cells #[.string f.f0, .int .i64 f.f1, .int .i64 f.f2, .int .i64 f.f3, .int .i64 f.f4, .int .i64 f.f5, .int .i64 f.f6] 44)).cell? ⟨w1.heap.size, 4, none⟩ = some (.int .i64 f.f4) := (cell_of_heap BFa.out 4).trans rfl; have fa5 : (w1.alloc (.cells #[.string f.f0, .int .i64 f.f1, .int .i64 f.f2, .int .i64 f.f3, .int .i64 f.f4, .int .i64 f.f5, .int .i64 f.f6] 44)).cell? ⟨w1.heap.size, 5, none⟩ = some (.int .i64 f.f5) := (cell_of_heap BFa.out 5).trans rfl; have fa6 : (w1.alloc (.cells #[.string f.f0, .int .i64 f.f1, .int .i64 f.f2, .int .i64 f.f3, .int .i64 f.f4, .int .i64 f.f5, .int .i64 f.f6] 44)).cell? ⟨w1.heap.size, 6, none⟩ = some (.int .i64 f.f6) := (cell_of_heap BFa.out 6).trans rfl; clear hs1))
  exact bodyPost_ret (v := .tuple #[.int .i64 0, .int .i64 0, .bool false]) (by simp [results, Try.results23, go_sem]) rfl ⟨rfl, C1.out.since, (KeptT.since (S0.out.trans (S1.out.alloc (.cells #[.string f.f0, .int .i64 f.f1, .int .i64 f.f2, .int .i64 f.f3, .int .i64 f.f4, .int .i64 f.f5, .int .i64 f.f6] 44))))⟩

set_option maxHeartbeats 4000000 in
set_option maxRecDepth 100000 in
theorem instr_no1 (h : Ck w0 w bw bm A0 c0 ws rg A2 n2 c2 n D ve vj ev jm) (hj : jm.length ≤ 50000) (hn : n ≤ 50000) (x : S39) (hx : x.f4.size ≤ 9223372036854775800) (q0 : 0 ≤ plF x.f0) (q1 : numB ws rg D (fmF x.f0).f3 x.f1 x = false) (q2 : True) (q3 : True) (q4 : True) :
    Calls Try.prog 23 #[.pointer (some ⟨bw, 0, none⟩), agI x] w (InsNo w0 w) := by
  obtain ⟨V, hV⟩ : ∃ V, V = w.alloc (.cells #[.string x.f0, .int .i64 x.f1, .int .i64 x.f2, .int .i64 x.f3, .string x.f4] 39) := ⟨_, rfl⟩
  have S0 := Aside0.mk (show Since w V by rw [hV]; exact (Since.refl w).alloc _)
  have HV := Aside0.mk hV
  have HB := Aside0.mk (show V.heap[w.heap.size]? = some (.cells #[.string x.f0, .int .i64 x.f1, .int .i64 x.f2, .int .i64 x.f3, .string x.f4] 39 (0, 0)) by rw [hV]; exact heap_alloc_new w _)
  have HC := Aside0.mk (h.go S0.out)
  have hok := forms_ok x.f0
  have hop := fun h => fm_op (op := x.f0) h
  have hFind := fun w => find_calls w x.f0
  obtain ⟨f, hf⟩ : ∃ f, f = fmF x.f0 := ⟨_, rfl⟩
  obtain ⟨pl, hpl⟩ : ∃ p, p = plF x.f0 := ⟨_, rfl⟩
  rw [← hf] at hok hop hFind
  rw [← hpl] at hop hFind
  have HFind := Aside0.mk (show ∀ w, Calls Try.prog 14 #[.string x.f0] w (fun e w' => e = .returned (.tuple #[.agg #[.string f.f0, .int .i64 f.f1, .int .i64 f.f2, .int .i64 f.f3, .int .i64 f.f4, .int .i64 f.f5, .int .i64 f.f6], .int .i64 pl]) ∧ Since w w') from hFind)
  have HOK := Aside0.mk hok
  have HOP := Aside0.mk hop
  have HF := Aside0.mk (And.intro hf hpl)
  simp only [formOk, Bool.and_eq_true, Bool.or_eq_true, decide_eq_true_eq] at hok
  obtain ⟨⟨⟨⟨⟨⟨⟨⟨⟨⟨⟨e1, e2⟩, e3⟩, e4⟩, e5⟩, e6⟩, e7⟩, e8⟩, e9⟩, e10⟩, e11⟩, e12⟩ := hok
  have NK := Aside0.mk (And.intro e1 (And.intro e2 (And.intro e3 (And.intro e4 e5))))
  have NE := Aside0.mk (And.intro e6 (And.intro e7 (And.intro e8 (And.intro e9 (And.intro e10 (And.intro e11 e12))))))
  rw [← hf] at q1
  rw [← hpl] at q0
  have q0' : decide (pl < 0) = false := decide_eq_false (by omega)
  have T1 := True.intro
  have T2 := True.intro
  have T3 := True.intro
  have Q1 := Aside0.mk q1
  have Q2 := Aside0.mk q2
  have Q3 := Aside0.mk q3
  have Q4 := Aside0.mk q4
  have Q0 := Aside0.mk q0
  skip
  clear hV hf hpl h hFind hop e1 e2 e3 e4 e5 e6 e7 e8 e9 e10 e11 e12 q1 q2 q3 q4
  show Calls Try.prog 23 #[.pointer (some ⟨bw, 0, none⟩), .agg #[.string x.f0, .int .i64 x.f1, .int .i64 x.f2, .int .i64 x.f3, .string x.f4]] w _
  go_enter Try.func23, Try.ntmps23
  go_wp2_with (first
      | (go_at_call 14; rw [← HV.out]; refine (HFind.out V).mono ?_; rintro e1 w1 ⟨rfl, hs1⟩; have S1 := Aside0.mk hs1; have BXa := Aside0.mk (blk_alloc (Cd.blk hs1.b HB.out) (.cells #[.string f.f0, .int .i64 f.f1, .int .i64 f.f2, .int .i64 f.f3, .int .i64 f.f4, .int .i64 f.f5, .int .i64 f.f6] 44)); have BFa := Aside0.mk (heap_alloc_new w1 (.cells #[.string f.f0, .int .i64 f.f1, .int .i64 f.f2, .int .i64 f.f3, .int .i64 f.f4, .int .i64 f.f5, .int .i64 f.f6] 44)); have C1 := Aside0.mk (HC.out.go (hs1.alloc (.cells #[.string f.f0, .int .i64 f.f1, .int .i64 f.f2, .int .i64 f.f3, .int .i64 f.f4, .int .i64 f.f5, .int .i64 f.f6] 44))); have xa0 : (w1.alloc (.cells #[.string f.f0, .int .i64 f.f1, .int .i64 f.f2, .int .i64 f.f3, .int .i64 f.f4, .int .i64 f.f5, .int .i64 f.f6] 44)).cell? ⟨w.heap.size, 0, none⟩ = some (.string x.f0) := (cell_of_heap BXa.out 0).trans rfl; have xa1 : (w1.alloc (.cells #[.string f.f0, .int .i64 f.f1, .int .i64 f.f2, .int .i64 f.f3, .int .i64 f.f4, .int .i64 f.f5, .int .i64 f.f6] 44)).cell? ⟨w.heap.size, 1, none⟩ = some (.int .i64 x.f1) := (cell_of_heap BXa.out 1).trans rfl; have xa2 : (w1.alloc (.cells #[.string f.f0, .int .i64 f.f1, .int .i64 f.f2, .int .i64 f.f3, .int .i64 f.f4, .int .i64 f.f5, .int .i64 f.f6] 44)).cell? ⟨w.heap.size, 2, none⟩ = some (.int .i64 x.f2) := (cell_of_heap BXa.out 2).trans rfl; have xa3 : (w1.alloc (.cells #[.string f.f0, .int .i64 f.f1, .int .i64 f.f2, .int .i64 f.f3, .int .i64 f.f4, .int .i64 f.f5, .int .i64 f.f6] 44)).cell? ⟨w.heap.size, 3, none⟩ = some (.int .i64 x.f3) := (cell_of_heap BXa.out 3).trans rfl; have xa4 : (w1.alloc (.cells #[.string f.f0, .int .i64 f.f1, .int .i64 f.f2, .int .i64 f.f3, .int .i64 f.f4, .int .i64 f.f5, .int .i64 f.f6] 44)).cell? ⟨w.heap.size, 4, none⟩ = some (.string x.f4) := (cell_of_heap BXa.out 4).trans rfl; have fa1 : (w1.alloc (.cells #[.string f.f0, .int .i64 f.f1, .int .i64 f.f2, .int .i64 f.f3, .int .i64 f.f4, .int .i64 f.f5, .int .i64 f.f6] 44)).cell? ⟨w1.heap.size, 1, none⟩ = some (.int .i64 f.f1) := (cell_of_heap BFa.out 1).trans rfl; have fa2 : (w1.alloc (.cells #[.string f.f0, .int .i64 f.f1, .int .i64 f.f2, .int .i64 f.f3, .int .i64 f.f4, .int .i64 f.f5, .int .i64 f.f6] 44)).cell? ⟨w1.heap.size, 2, none⟩ = some (.int .i64 f.f2) := (cell_of_heap BFa.out 2).trans rfl; have fa3 : (w1.alloc (.cells #[.string f.f0, .int .i64 f.f1, .int .i64 f.f2, .int .i64 f.f3, .int .i64 f.f4, .int .i64 f.f5, .int .i64 f.f6] 44)).cell? ⟨w1.heap.size, 3, none⟩ = some (.int .i64 f.f3) := (cell_of_heap BFa.out 3).trans rfl; have fa4 : (w1.alloc (.cells #[.string f.f0, .int .i64 f.f1, .int .i64 f.f2, .int .i64 f.f3, .int .i64 f.f4, .int .i64 f.f5, .int .i64 f.f6] 44)).cell? ⟨w1.heap.size, 4, none⟩ = some (.int .i64 f.f4) := (cell_of_heap BFa.out 4).trans rfl; have fa5 : (w1.alloc (.cells #[.string f.f0, .int .i64 f.f1, .int .i64 f.f2, .int .i64 f.f3, .int .i64 f.f4, .int .i64 f.f5, .int .i64 f.f6] 44)).cell? ⟨w1.heap.size, 5, none⟩ = some (.int .i64 f.f5) := (cell_of_heap BFa.out 5).trans rfl; have fa6 : (w1.alloc (.cells #[.string f.f0, .int .i64 f.f1, .int .i64 f.f2, .int .i64 f.f3, .int .i64 f.f4, .int .i64 f.f5, .int .i64 f.f6] 44)).cell? ⟨w1.heap.size, 6, none⟩ = some (.int .i64 f.f6) := (cell_of_heap BFa.out 6).trans rfl; clear hs1) 
      | (go_at_call 34; have htok := T1; have hN := number_calls C1.out (by omega) f.f3 x.f1 x hx (fun h => absurd h NK.out.1) (fun h => absurd h NK.out.2.1); rw [Q1.out] at hN; refine hN.mono ?_; clear T1 htok hN; rintro e2 w2 ⟨rfl, ⟨vj1, hc2⟩, hk2⟩; have C2 := Aside0.mk hc2; have K1 := Aside0.mk hk2; have BXb := Aside0.mk (hk2.same _ _ 39 (by decide) (by decide) (by decide) BXa.out); have BFb := Aside0.mk (hk2.same _ _ 44 (by decide) (by decide) (by decide) BFa.out); have xb0 : (w2).cell? ⟨w.heap.size, 0, none⟩ = some (.string x.f0) := (cell_of_heap BXb.out 0).trans rfl; have xb1 : (w2).cell? ⟨w.heap.size, 1, none⟩ = some (.int .i64 x.f1) := (cell_of_heap BXb.out 1).trans rfl; have xb2 : (w2).cell? ⟨w.heap.size, 2, none⟩ = some (.int .i64 x.f2) := (cell_of_heap BXb.out 2).trans rfl; have xb3 : (w2).cell? ⟨w.heap.size, 3, none⟩ = some (.int .i64 x.f3) := (cell_of_heap BXb.out 3).trans rfl; have xb4 : (w2).cell? ⟨w.heap.size, 4, none⟩ = some (.string x.f4) := (cell_of_heap BXb.out 4).trans rfl; have fb1 : (w2).cell? ⟨w1.heap.size, 1, none⟩ = some (.int .i64 f.f1) := (cell_of_heap BFb.out 1).trans rfl; have fb2 : (w2).cell? ⟨w1.heap.size, 2, none⟩ = some (.int .i64 f.f2) := (cell_of_heap BFb.out 2).trans rfl; have fb3 : (w2).cell? ⟨w1.heap.size, 3, none⟩ = some (.int .i64 f.f3) := (cell_of_heap BFb.out 3).trans rfl; have fb4 : (w2).cell? ⟨w1.heap.size, 4, none⟩ = some (.int .i64 f.f4) := (cell_of_heap BFb.out 4).trans rfl; have fb5 : (w2).cell? ⟨w1.heap.size, 5, none⟩ = some (.int .i64 f.f5) := (cell_of_heap BFb.out 5).trans rfl; have fb6 : (w2).cell? ⟨w1.heap.size, 6, none⟩ = some (.int .i64 f.f6) := (cell_of_heap BFb.out 6).trans rfl; clear hc2 hk2))
  exact bodyPost_ret (v := .tuple #[.int .i64 0, .int .i64 0, .bool false]) (by simp [results, Try.results23, go_sem]) rfl ⟨rfl, C2.out.since, ((KeptT.since (S0.out.trans (S1.out.alloc (.cells #[.string f.f0, .int .i64 f.f1, .int .i64 f.f2, .int .i64 f.f3, .int .i64 f.f4, .int .i64 f.f5, .int .i64 f.f6] 44)))).trans K1.out)⟩

set_option maxHeartbeats 4000000 in
set_option maxRecDepth 100000 in
theorem instr_no2 (h : Ck w0 w bw bm A0 c0 ws rg A2 n2 c2 n D ve vj ev jm) (hj : jm.length ≤ 50000) (hn : n ≤ 50000) (x : S39) (hx : x.f4.size ≤ 9223372036854775800) (q0 : 0 ≤ plF x.f0) (q1 : numB ws rg D (fmF x.f0).f3 x.f1 x = true) (q2 : numB ws rg D (fmF x.f0).f4 x.f2 x = false) (q3 : True) (q4 : True) :
    Calls Try.prog 23 #[.pointer (some ⟨bw, 0, none⟩), agI x] w (InsNo w0 w) := by
  obtain ⟨V, hV⟩ : ∃ V, V = w.alloc (.cells #[.string x.f0, .int .i64 x.f1, .int .i64 x.f2, .int .i64 x.f3, .string x.f4] 39) := ⟨_, rfl⟩
  have S0 := Aside0.mk (show Since w V by rw [hV]; exact (Since.refl w).alloc _)
  have HV := Aside0.mk hV
  have HB := Aside0.mk (show V.heap[w.heap.size]? = some (.cells #[.string x.f0, .int .i64 x.f1, .int .i64 x.f2, .int .i64 x.f3, .string x.f4] 39 (0, 0)) by rw [hV]; exact heap_alloc_new w _)
  have HC := Aside0.mk (h.go S0.out)
  have hok := forms_ok x.f0
  have hop := fun h => fm_op (op := x.f0) h
  have hFind := fun w => find_calls w x.f0
  obtain ⟨f, hf⟩ : ∃ f, f = fmF x.f0 := ⟨_, rfl⟩
  obtain ⟨pl, hpl⟩ : ∃ p, p = plF x.f0 := ⟨_, rfl⟩
  rw [← hf] at hok hop hFind
  rw [← hpl] at hop hFind
  have HFind := Aside0.mk (show ∀ w, Calls Try.prog 14 #[.string x.f0] w (fun e w' => e = .returned (.tuple #[.agg #[.string f.f0, .int .i64 f.f1, .int .i64 f.f2, .int .i64 f.f3, .int .i64 f.f4, .int .i64 f.f5, .int .i64 f.f6], .int .i64 pl]) ∧ Since w w') from hFind)
  have HOK := Aside0.mk hok
  have HOP := Aside0.mk hop
  have HF := Aside0.mk (And.intro hf hpl)
  simp only [formOk, Bool.and_eq_true, Bool.or_eq_true, decide_eq_true_eq] at hok
  obtain ⟨⟨⟨⟨⟨⟨⟨⟨⟨⟨⟨e1, e2⟩, e3⟩, e4⟩, e5⟩, e6⟩, e7⟩, e8⟩, e9⟩, e10⟩, e11⟩, e12⟩ := hok
  have NK := Aside0.mk (And.intro e1 (And.intro e2 (And.intro e3 (And.intro e4 e5))))
  have NE := Aside0.mk (And.intro e6 (And.intro e7 (And.intro e8 (And.intro e9 (And.intro e10 (And.intro e11 e12))))))
  rw [← hf] at q1 q2
  rw [← hpl] at q0
  have q0' : decide (pl < 0) = false := decide_eq_false (by omega)
  have T1 := True.intro
  have T2 := True.intro
  have T3 := True.intro
  have Q1 := Aside0.mk q1
  have Q2 := Aside0.mk q2
  have Q3 := Aside0.mk q3
  have Q4 := Aside0.mk q4
  have Q0 := Aside0.mk q0
  skip
  clear hV hf hpl h hFind hop e1 e2 e3 e4 e5 e6 e7 e8 e9 e10 e11 e12 q1 q2 q3 q4
  show Calls Try.prog 23 #[.pointer (some ⟨bw, 0, none⟩), .agg #[.string x.f0, .int .i64 x.f1, .int .i64 x.f2, .int .i64 x.f3, .string x.f4]] w _
  go_enter Try.func23, Try.ntmps23
  go_wp2_with (first
      | (go_at_call 14; rw [← HV.out]; refine (HFind.out V).mono ?_; rintro e1 w1 ⟨rfl, hs1⟩; have S1 := Aside0.mk hs1; have BXa := Aside0.mk (blk_alloc (Cd.blk hs1.b HB.out) (.cells #[.string f.f0, .int .i64 f.f1, .int .i64 f.f2, .int .i64 f.f3, .int .i64 f.f4, .int .i64 f.f5, .int .i64 f.f6] 44)); have BFa := Aside0.mk (heap_alloc_new w1 (.cells #[.string f.f0, .int .i64 f.f1, .int .i64 f.f2, .int .i64 f.f3, .int .i64 f.f4, .int .i64 f.f5, .int .i64 f.f6] 44)); have C1 := Aside0.mk (HC.out.go (hs1.alloc (.cells #[.string f.f0, .int .i64 f.f1, .int .i64 f.f2, .int .i64 f.f3, .int .i64 f.f4, .int .i64 f.f5, .int .i64 f.f6] 44))); have xa0 : (w1.alloc (.cells #[.string f.f0, .int .i64 f.f1, .int .i64 f.f2, .int .i64 f.f3, .int .i64 f.f4, .int .i64 f.f5, .int .i64 f.f6] 44)).cell? ⟨w.heap.size, 0, none⟩ = some (.string x.f0) := (cell_of_heap BXa.out 0).trans rfl; have xa1 : (w1.alloc (.cells #[.string f.f0, .int .i64 f.f1, .int .i64 f.f2, .int .i64 f.f3, .int .i64 f.f4, .int .i64 f.f5, .int .i64 f.f6] 44)).cell? ⟨w.heap.size, 1, none⟩ = some (.int .i64 x.f1) := (cell_of_heap BXa.out 1).trans rfl; have xa2 : (w1.alloc (.cells #[.string f.f0, .int .i64 f.f1, .int .i64 f.f2, .int .i64 f.f3, .int .i64 f.f4, .int .i64 f.f5, .int .i64 f.f6] 44)).cell? ⟨w.heap.size, 2, none⟩ = some (.int .i64 x.f2) := (cell_of_heap BXa.out 2).trans rfl; have xa3 : (w1.alloc (.cells #[.string f.f0, .int .i64 f.f1, .int .i64 f.f2, .int .i64 f.f3, .int .i64 f.f4, .int .i64 f.f5, .int .i64 f.f6] 44)).cell? ⟨w.heap.size, 3, none⟩ = some (.int .i64 x.f3) := (cell_of_heap BXa.out 3).trans rfl; have xa4 : (w1.alloc (.cells #[.string f.f0, .int .i64 f.f1, .int .i64 f.f2, .int .i64 f.f3, .int .i64 f.f4, .int .i64 f.f5, .int .i64 f.f6] 44)).cell? ⟨w.heap.size, 4, none⟩ = some (.string x.f4) := (cell_of_heap BXa.out 4).trans rfl; have fa1 : (w1.alloc (.cells #[.string f.f0, .int .i64 f.f1, .int .i64 f.f2, .int .i64 f.f3, .int .i64 f.f4, .int .i64 f.f5, .int .i64 f.f6] 44)).cell? ⟨w1.heap.size, 1, none⟩ = some (.int .i64 f.f1) := (cell_of_heap BFa.out 1).trans rfl; have fa2 : (w1.alloc (.cells #[.string f.f0, .int .i64 f.f1, .int .i64 f.f2, .int .i64 f.f3, .int .i64 f.f4, .int .i64 f.f5, .int .i64 f.f6] 44)).cell? ⟨w1.heap.size, 2, none⟩ = some (.int .i64 f.f2) := (cell_of_heap BFa.out 2).trans rfl; have fa3 : (w1.alloc (.cells #[.string f.f0, .int .i64 f.f1, .int .i64 f.f2, .int .i64 f.f3, .int .i64 f.f4, .int .i64 f.f5, .int .i64 f.f6] 44)).cell? ⟨w1.heap.size, 3, none⟩ = some (.int .i64 f.f3) := (cell_of_heap BFa.out 3).trans rfl; have fa4 : (w1.alloc (.cells #[.string f.f0, .int .i64 f.f1, .int .i64 f.f2, .int .i64 f.f3, .int .i64 f.f4, .int .i64 f.f5, .int .i64 f.f6] 44)).cell? ⟨w1.heap.size, 4, none⟩ = some (.int .i64 f.f4) := (cell_of_heap BFa.out 4).trans rfl; have fa5 : (w1.alloc (.cells #[.string f.f0, .int .i64 f.f1, .int .i64 f.f2, .int .i64 f.f3, .int .i64 f.f4, .int .i64 f.f5, .int .i64 f.f6] 44)).cell? ⟨w1.heap.size, 5, none⟩ = some (.int .i64 f.f5) := (cell_of_heap BFa.out 5).trans rfl; have fa6 : (w1.alloc (.cells #[.string f.f0, .int .i64 f.f1, .int .i64 f.f2, .int .i64 f.f3, .int .i64 f.f4, .int .i64 f.f5, .int .i64 f.f6] 44)).cell? ⟨w1.heap.size, 6, none⟩ = some (.int .i64 f.f6) := (cell_of_heap BFa.out 6).trans rfl; clear hs1) 
      | (go_at_call 34; have htok := T1; have hN := number_calls C1.out (by omega) f.f3 x.f1 x hx (fun h => absurd h NK.out.1) (fun h => absurd h NK.out.2.1); rw [Q1.out] at hN; refine hN.mono ?_; clear T1 htok hN; rintro e2 w2 ⟨rfl, ⟨vj1, hc2⟩, hk2⟩; have C2 := Aside0.mk hc2; have K1 := Aside0.mk hk2; have BXb := Aside0.mk (hk2.same _ _ 39 (by decide) (by decide) (by decide) BXa.out); have BFb := Aside0.mk (hk2.same _ _ 44 (by decide) (by decide) (by decide) BFa.out); have xb0 : (w2).cell? ⟨w.heap.size, 0, none⟩ = some (.string x.f0) := (cell_of_heap BXb.out 0).trans rfl; have xb1 : (w2).cell? ⟨w.heap.size, 1, none⟩ = some (.int .i64 x.f1) := (cell_of_heap BXb.out 1).trans rfl; have xb2 : (w2).cell? ⟨w.heap.size, 2, none⟩ = some (.int .i64 x.f2) := (cell_of_heap BXb.out 2).trans rfl; have xb3 : (w2).cell? ⟨w.heap.size, 3, none⟩ = some (.int .i64 x.f3) := (cell_of_heap BXb.out 3).trans rfl; have xb4 : (w2).cell? ⟨w.heap.size, 4, none⟩ = some (.string x.f4) := (cell_of_heap BXb.out 4).trans rfl; have fb1 : (w2).cell? ⟨w1.heap.size, 1, none⟩ = some (.int .i64 f.f1) := (cell_of_heap BFb.out 1).trans rfl; have fb2 : (w2).cell? ⟨w1.heap.size, 2, none⟩ = some (.int .i64 f.f2) := (cell_of_heap BFb.out 2).trans rfl; have fb3 : (w2).cell? ⟨w1.heap.size, 3, none⟩ = some (.int .i64 f.f3) := (cell_of_heap BFb.out 3).trans rfl; have fb4 : (w2).cell? ⟨w1.heap.size, 4, none⟩ = some (.int .i64 f.f4) := (cell_of_heap BFb.out 4).trans rfl; have fb5 : (w2).cell? ⟨w1.heap.size, 5, none⟩ = some (.int .i64 f.f5) := (cell_of_heap BFb.out 5).trans rfl; have fb6 : (w2).cell? ⟨w1.heap.size, 6, none⟩ = some (.int .i64 f.f6) := (cell_of_heap BFb.out 6).trans rfl; clear hc2 hk2) 
      | (go_at_call 34; have htok := T2; have hN := number_calls C2.out (by have := numJ_len f.f3 x.f1 jm; omega) f.f4 x.f2 x hx (fun h => absurd h NK.out.2.2.1) (fun h => absurd h NK.out.2.2.2.1); rw [Q2.out] at hN; refine hN.mono ?_; clear T2 htok hN; rintro e2 w3 ⟨rfl, ⟨vj2, hc2⟩, hk2⟩; have C3 := Aside0.mk hc2; have K2 := Aside0.mk hk2; have BXc := Aside0.mk (hk2.same _ _ 39 (by decide) (by decide) (by decide) BXb.out); have BFc := Aside0.mk (hk2.same _ _ 44 (by decide) (by decide) (by decide) BFb.out); have xc0 : (w3).cell? ⟨w.heap.size, 0, none⟩ = some (.string x.f0) := (cell_of_heap BXc.out 0).trans rfl; have xc1 : (w3).cell? ⟨w.heap.size, 1, none⟩ = some (.int .i64 x.f1) := (cell_of_heap BXc.out 1).trans rfl; have xc2 : (w3).cell? ⟨w.heap.size, 2, none⟩ = some (.int .i64 x.f2) := (cell_of_heap BXc.out 2).trans rfl; have xc3 : (w3).cell? ⟨w.heap.size, 3, none⟩ = some (.int .i64 x.f3) := (cell_of_heap BXc.out 3).trans rfl; have xc4 : (w3).cell? ⟨w.heap.size, 4, none⟩ = some (.string x.f4) := (cell_of_heap BXc.out 4).trans rfl; have fc1 : (w3).cell? ⟨w1.heap.size, 1, none⟩ = some (.int .i64 f.f1) := (cell_of_heap BFc.out 1).trans rfl; have fc2 : (w3).cell? ⟨w1.heap.size, 2, none⟩ = some (.int .i64 f.f2) := (cell_of_heap BFc.out 2).trans rfl; have fc3 : (w3).cell? ⟨w1.heap.size, 3, none⟩ = some (.int .i64 f.f3) := (cell_of_heap BFc.out 3).trans rfl; have fc4 : (w3).cell? ⟨w1.heap.size, 4, none⟩ = some (.int .i64 f.f4) := (cell_of_heap BFc.out 4).trans rfl; have fc5 : (w3).cell? ⟨w1.heap.size, 5, none⟩ = some (.int .i64 f.f5) := (cell_of_heap BFc.out 5).trans rfl; have fc6 : (w3).cell? ⟨w1.heap.size, 6, none⟩ = some (.int .i64 f.f6) := (cell_of_heap BFc.out 6).trans rfl; clear hc2 hk2))
  exact bodyPost_ret (v := .tuple #[.int .i64 0, .int .i64 0, .bool false]) (by simp [results, Try.results23, go_sem]) rfl ⟨rfl, C3.out.since, (((KeptT.since (S0.out.trans (S1.out.alloc (.cells #[.string f.f0, .int .i64 f.f1, .int .i64 f.f2, .int .i64 f.f3, .int .i64 f.f4, .int .i64 f.f5, .int .i64 f.f6] 44)))).trans K1.out).trans K2.out)⟩

set_option maxHeartbeats 4000000 in
set_option maxRecDepth 100000 in
theorem instr_no3 (h : Ck w0 w bw bm A0 c0 ws rg A2 n2 c2 n D ve vj ev jm) (hj : jm.length ≤ 50000) (hn : n ≤ 50000) (x : S39) (hx : x.f4.size ≤ 9223372036854775800) (q0 : 0 ≤ plF x.f0) (q1 : numB ws rg D (fmF x.f0).f3 x.f1 x = true) (q2 : numB ws rg D (fmF x.f0).f4 x.f2 x = true) (q3 : numB ws rg D (fmF x.f0).f5 x.f3 x = false) (q4 : True) :
    Calls Try.prog 23 #[.pointer (some ⟨bw, 0, none⟩), agI x] w (InsNo w0 w) := by
  obtain ⟨V, hV⟩ : ∃ V, V = w.alloc (.cells #[.string x.f0, .int .i64 x.f1, .int .i64 x.f2, .int .i64 x.f3, .string x.f4] 39) := ⟨_, rfl⟩
  have S0 := Aside0.mk (show Since w V by rw [hV]; exact (Since.refl w).alloc _)
  have HV := Aside0.mk hV
  have HB := Aside0.mk (show V.heap[w.heap.size]? = some (.cells #[.string x.f0, .int .i64 x.f1, .int .i64 x.f2, .int .i64 x.f3, .string x.f4] 39 (0, 0)) by rw [hV]; exact heap_alloc_new w _)
  have HC := Aside0.mk (h.go S0.out)
  have hok := forms_ok x.f0
  have hop := fun h => fm_op (op := x.f0) h
  have hFind := fun w => find_calls w x.f0
  obtain ⟨f, hf⟩ : ∃ f, f = fmF x.f0 := ⟨_, rfl⟩
  obtain ⟨pl, hpl⟩ : ∃ p, p = plF x.f0 := ⟨_, rfl⟩
  rw [← hf] at hok hop hFind
  rw [← hpl] at hop hFind
  have HFind := Aside0.mk (show ∀ w, Calls Try.prog 14 #[.string x.f0] w (fun e w' => e = .returned (.tuple #[.agg #[.string f.f0, .int .i64 f.f1, .int .i64 f.f2, .int .i64 f.f3, .int .i64 f.f4, .int .i64 f.f5, .int .i64 f.f6], .int .i64 pl]) ∧ Since w w') from hFind)
  have HOK := Aside0.mk hok
  have HOP := Aside0.mk hop
  have HF := Aside0.mk (And.intro hf hpl)
  simp only [formOk, Bool.and_eq_true, Bool.or_eq_true, decide_eq_true_eq] at hok
  obtain ⟨⟨⟨⟨⟨⟨⟨⟨⟨⟨⟨e1, e2⟩, e3⟩, e4⟩, e5⟩, e6⟩, e7⟩, e8⟩, e9⟩, e10⟩, e11⟩, e12⟩ := hok
  have NK := Aside0.mk (And.intro e1 (And.intro e2 (And.intro e3 (And.intro e4 e5))))
  have NE := Aside0.mk (And.intro e6 (And.intro e7 (And.intro e8 (And.intro e9 (And.intro e10 (And.intro e11 e12))))))
  rw [← hf] at q1 q2 q3
  rw [← hpl] at q0
  have q0' : decide (pl < 0) = false := decide_eq_false (by omega)
  have T1 := True.intro
  have T2 := True.intro
  have T3 := True.intro
  have Q1 := Aside0.mk q1
  have Q2 := Aside0.mk q2
  have Q3 := Aside0.mk q3
  have Q4 := Aside0.mk q4
  have Q0 := Aside0.mk q0
  have P3 := Aside0.mk (show f.f5 = 3 → isOp x.f0 [109, 97, 116, 99, 104] = false → 0 ≤ x.f1 ∧ x.f1 < 64 from fun h5 hm => by
    rcases NK.out.2.2.2.2 with (h | h) | h
    · exact absurd h5 h
    · rw [HOP.out (by omega)] at h
      exact absurd (show isOp x.f0 [109, 97, 116, 99, 104] = true from h) (by rw [hm]; decide)
    · have h3 : f.f3 = 5 := eq_of_beq h
      have hq := Q1.out
      rw [h3] at hq
      unfold numB at hq
      simpa using hq)
  have P6 := Aside0.mk (show f.f5 = 6 → 0 ≤ x.f2 ∧ x.f2 < ws.length from fun h5 => by
    rcases NE.out.1 with h | h
    · exact absurd h5 h
    · have h3 : f.f4 = 4 := eq_of_beq h
      have hq := Q2.out
      rw [h3] at hq
      unfold numB at hq
      simpa using hq)
  clear hV hf hpl h hFind hop e1 e2 e3 e4 e5 e6 e7 e8 e9 e10 e11 e12 q1 q2 q3 q4
  show Calls Try.prog 23 #[.pointer (some ⟨bw, 0, none⟩), .agg #[.string x.f0, .int .i64 x.f1, .int .i64 x.f2, .int .i64 x.f3, .string x.f4]] w _
  go_enter Try.func23, Try.ntmps23
  go_wp2_with (first
      | (go_at_call 14; rw [← HV.out]; refine (HFind.out V).mono ?_; rintro e1 w1 ⟨rfl, hs1⟩; have S1 := Aside0.mk hs1; have BXa := Aside0.mk (blk_alloc (Cd.blk hs1.b HB.out) (.cells #[.string f.f0, .int .i64 f.f1, .int .i64 f.f2, .int .i64 f.f3, .int .i64 f.f4, .int .i64 f.f5, .int .i64 f.f6] 44)); have BFa := Aside0.mk (heap_alloc_new w1 (.cells #[.string f.f0, .int .i64 f.f1, .int .i64 f.f2, .int .i64 f.f3, .int .i64 f.f4, .int .i64 f.f5, .int .i64 f.f6] 44)); have C1 := Aside0.mk (HC.out.go (hs1.alloc (.cells #[.string f.f0, .int .i64 f.f1, .int .i64 f.f2, .int .i64 f.f3, .int .i64 f.f4, .int .i64 f.f5, .int .i64 f.f6] 44))); have xa0 : (w1.alloc (.cells #[.string f.f0, .int .i64 f.f1, .int .i64 f.f2, .int .i64 f.f3, .int .i64 f.f4, .int .i64 f.f5, .int .i64 f.f6] 44)).cell? ⟨w.heap.size, 0, none⟩ = some (.string x.f0) := (cell_of_heap BXa.out 0).trans rfl; have xa1 : (w1.alloc (.cells #[.string f.f0, .int .i64 f.f1, .int .i64 f.f2, .int .i64 f.f3, .int .i64 f.f4, .int .i64 f.f5, .int .i64 f.f6] 44)).cell? ⟨w.heap.size, 1, none⟩ = some (.int .i64 x.f1) := (cell_of_heap BXa.out 1).trans rfl; have xa2 : (w1.alloc (.cells #[.string f.f0, .int .i64 f.f1, .int .i64 f.f2, .int .i64 f.f3, .int .i64 f.f4, .int .i64 f.f5, .int .i64 f.f6] 44)).cell? ⟨w.heap.size, 2, none⟩ = some (.int .i64 x.f2) := (cell_of_heap BXa.out 2).trans rfl; have xa3 : (w1.alloc (.cells #[.string f.f0, .int .i64 f.f1, .int .i64 f.f2, .int .i64 f.f3, .int .i64 f.f4, .int .i64 f.f5, .int .i64 f.f6] 44)).cell? ⟨w.heap.size, 3, none⟩ = some (.int .i64 x.f3) := (cell_of_heap BXa.out 3).trans rfl; have xa4 : (w1.alloc (.cells #[.string f.f0, .int .i64 f.f1, .int .i64 f.f2, .int .i64 f.f3, .int .i64 f.f4, .int .i64 f.f5, .int .i64 f.f6] 44)).cell? ⟨w.heap.size, 4, none⟩ = some (.string x.f4) := (cell_of_heap BXa.out 4).trans rfl; have fa1 : (w1.alloc (.cells #[.string f.f0, .int .i64 f.f1, .int .i64 f.f2, .int .i64 f.f3, .int .i64 f.f4, .int .i64 f.f5, .int .i64 f.f6] 44)).cell? ⟨w1.heap.size, 1, none⟩ = some (.int .i64 f.f1) := (cell_of_heap BFa.out 1).trans rfl; have fa2 : (w1.alloc (.cells #[.string f.f0, .int .i64 f.f1, .int .i64 f.f2, .int .i64 f.f3, .int .i64 f.f4, .int .i64 f.f5, .int .i64 f.f6] 44)).cell? ⟨w1.heap.size, 2, none⟩ = some (.int .i64 f.f2) := (cell_of_heap BFa.out 2).trans rfl; have fa3 : (w1.alloc (.cells #[.string f.f0, .int .i64 f.f1, .int .i64 f.f2, .int .i64 f.f3, .int .i64 f.f4, .int .i64 f.f5, .int .i64 f.f6] 44)).cell? ⟨w1.heap.size, 3, none⟩ = some (.int .i64 f.f3) := (cell_of_heap BFa.out 3).trans rfl; have fa4 : (w1.alloc (.cells #[.string f.f0, .int .i64 f.f1, .int .i64 f.f2, .int .i64 f.f3, .int .i64 f.f4, .int .i64 f.f5, .int .i64 f.f6] 44)).cell? ⟨w1.heap.size, 4, none⟩ = some (.int .i64 f.f4) := (cell_of_heap BFa.out 4).trans rfl; have fa5 : (w1.alloc (.cells #[.string f.f0, .int .i64 f.f1, .int .i64 f.f2, .int .i64 f.f3, .int .i64 f.f4, .int .i64 f.f5, .int .i64 f.f6] 44)).cell? ⟨w1.heap.size, 5, none⟩ = some (.int .i64 f.f5) := (cell_of_heap BFa.out 5).trans rfl; have fa6 : (w1.alloc (.cells #[.string f.f0, .int .i64 f.f1, .int .i64 f.f2, .int .i64 f.f3, .int .i64 f.f4, .int .i64 f.f5, .int .i64 f.f6] 44)).cell? ⟨w1.heap.size, 6, none⟩ = some (.int .i64 f.f6) := (cell_of_heap BFa.out 6).trans rfl; clear hs1) 
      | (go_at_call 34; have htok := T1; have hN := number_calls C1.out (by omega) f.f3 x.f1 x hx (fun h => absurd h NK.out.1) (fun h => absurd h NK.out.2.1); rw [Q1.out] at hN; refine hN.mono ?_; clear T1 htok hN; rintro e2 w2 ⟨rfl, ⟨vj1, hc2⟩, hk2⟩; have C2 := Aside0.mk hc2; have K1 := Aside0.mk hk2; have BXb := Aside0.mk (hk2.same _ _ 39 (by decide) (by decide) (by decide) BXa.out); have BFb := Aside0.mk (hk2.same _ _ 44 (by decide) (by decide) (by decide) BFa.out); have xb0 : (w2).cell? ⟨w.heap.size, 0, none⟩ = some (.string x.f0) := (cell_of_heap BXb.out 0).trans rfl; have xb1 : (w2).cell? ⟨w.heap.size, 1, none⟩ = some (.int .i64 x.f1) := (cell_of_heap BXb.out 1).trans rfl; have xb2 : (w2).cell? ⟨w.heap.size, 2, none⟩ = some (.int .i64 x.f2) := (cell_of_heap BXb.out 2).trans rfl; have xb3 : (w2).cell? ⟨w.heap.size, 3, none⟩ = some (.int .i64 x.f3) := (cell_of_heap BXb.out 3).trans rfl; have xb4 : (w2).cell? ⟨w.heap.size, 4, none⟩ = some (.string x.f4) := (cell_of_heap BXb.out 4).trans rfl; have fb1 : (w2).cell? ⟨w1.heap.size, 1, none⟩ = some (.int .i64 f.f1) := (cell_of_heap BFb.out 1).trans rfl; have fb2 : (w2).cell? ⟨w1.heap.size, 2, none⟩ = some (.int .i64 f.f2) := (cell_of_heap BFb.out 2).trans rfl; have fb3 : (w2).cell? ⟨w1.heap.size, 3, none⟩ = some (.int .i64 f.f3) := (cell_of_heap BFb.out 3).trans rfl; have fb4 : (w2).cell? ⟨w1.heap.size, 4, none⟩ = some (.int .i64 f.f4) := (cell_of_heap BFb.out 4).trans rfl; have fb5 : (w2).cell? ⟨w1.heap.size, 5, none⟩ = some (.int .i64 f.f5) := (cell_of_heap BFb.out 5).trans rfl; have fb6 : (w2).cell? ⟨w1.heap.size, 6, none⟩ = some (.int .i64 f.f6) := (cell_of_heap BFb.out 6).trans rfl; clear hc2 hk2) 
      | (go_at_call 34; have htok := T2; have hN := number_calls C2.out (by have := numJ_len f.f3 x.f1 jm; omega) f.f4 x.f2 x hx (fun h => absurd h NK.out.2.2.1) (fun h => absurd h NK.out.2.2.2.1); rw [Q2.out] at hN; refine hN.mono ?_; clear T2 htok hN; rintro e2 w3 ⟨rfl, ⟨vj2, hc2⟩, hk2⟩; have C3 := Aside0.mk hc2; have K2 := Aside0.mk hk2; have BXc := Aside0.mk (hk2.same _ _ 39 (by decide) (by decide) (by decide) BXb.out); have BFc := Aside0.mk (hk2.same _ _ 44 (by decide) (by decide) (by decide) BFb.out); have xc0 : (w3).cell? ⟨w.heap.size, 0, none⟩ = some (.string x.f0) := (cell_of_heap BXc.out 0).trans rfl; have xc1 : (w3).cell? ⟨w.heap.size, 1, none⟩ = some (.int .i64 x.f1) := (cell_of_heap BXc.out 1).trans rfl; have xc2 : (w3).cell? ⟨w.heap.size, 2, none⟩ = some (.int .i64 x.f2) := (cell_of_heap BXc.out 2).trans rfl; have xc3 : (w3).cell? ⟨w.heap.size, 3, none⟩ = some (.int .i64 x.f3) := (cell_of_heap BXc.out 3).trans rfl; have xc4 : (w3).cell? ⟨w.heap.size, 4, none⟩ = some (.string x.f4) := (cell_of_heap BXc.out 4).trans rfl; have fc1 : (w3).cell? ⟨w1.heap.size, 1, none⟩ = some (.int .i64 f.f1) := (cell_of_heap BFc.out 1).trans rfl; have fc2 : (w3).cell? ⟨w1.heap.size, 2, none⟩ = some (.int .i64 f.f2) := (cell_of_heap BFc.out 2).trans rfl; have fc3 : (w3).cell? ⟨w1.heap.size, 3, none⟩ = some (.int .i64 f.f3) := (cell_of_heap BFc.out 3).trans rfl; have fc4 : (w3).cell? ⟨w1.heap.size, 4, none⟩ = some (.int .i64 f.f4) := (cell_of_heap BFc.out 4).trans rfl; have fc5 : (w3).cell? ⟨w1.heap.size, 5, none⟩ = some (.int .i64 f.f5) := (cell_of_heap BFc.out 5).trans rfl; have fc6 : (w3).cell? ⟨w1.heap.size, 6, none⟩ = some (.int .i64 f.f6) := (cell_of_heap BFc.out 6).trans rfl; clear hc2 hk2) 
      | (go_at_call 34; have htok := T3; have hN := number_calls C3.out (by have := numJ_len f.f3 x.f1 jm; have := numJ_len f.f4 x.f2 (numJ f.f3 x.f1 jm); omega) f.f5 x.f3 x hx P3.out P6.out; rw [Q3.out] at hN; refine hN.mono ?_; clear T3 htok hN; rintro e2 w4 ⟨rfl, ⟨vj3, hc2⟩, hk2⟩; have C4 := Aside0.mk hc2; have K3 := Aside0.mk hk2; have BXd := Aside0.mk (hk2.same _ _ 39 (by decide) (by decide) (by decide) BXc.out); have BFd := Aside0.mk (hk2.same _ _ 44 (by decide) (by decide) (by decide) BFc.out); have xd0 : (w4).cell? ⟨w.heap.size, 0, none⟩ = some (.string x.f0) := (cell_of_heap BXd.out 0).trans rfl; have xd1 : (w4).cell? ⟨w.heap.size, 1, none⟩ = some (.int .i64 x.f1) := (cell_of_heap BXd.out 1).trans rfl; have xd2 : (w4).cell? ⟨w.heap.size, 2, none⟩ = some (.int .i64 x.f2) := (cell_of_heap BXd.out 2).trans rfl; have xd3 : (w4).cell? ⟨w.heap.size, 3, none⟩ = some (.int .i64 x.f3) := (cell_of_heap BXd.out 3).trans rfl; have xd4 : (w4).cell? ⟨w.heap.size, 4, none⟩ = some (.string x.f4) := (cell_of_heap BXd.out 4).trans rfl; have fd1 : (w4).cell? ⟨w1.heap.size, 1, none⟩ = some (.int .i64 f.f1) := (cell_of_heap BFd.out 1).trans rfl; have fd2 : (w4).cell? ⟨w1.heap.size, 2, none⟩ = some (.int .i64 f.f2) := (cell_of_heap BFd.out 2).trans rfl; have fd3 : (w4).cell? ⟨w1.heap.size, 3, none⟩ = some (.int .i64 f.f3) := (cell_of_heap BFd.out 3).trans rfl; have fd4 : (w4).cell? ⟨w1.heap.size, 4, none⟩ = some (.int .i64 f.f4) := (cell_of_heap BFd.out 4).trans rfl; have fd5 : (w4).cell? ⟨w1.heap.size, 5, none⟩ = some (.int .i64 f.f5) := (cell_of_heap BFd.out 5).trans rfl; have fd6 : (w4).cell? ⟨w1.heap.size, 6, none⟩ = some (.int .i64 f.f6) := (cell_of_heap BFd.out 6).trans rfl; clear hc2 hk2))
  exact bodyPost_ret (v := .tuple #[.int .i64 0, .int .i64 0, .bool false]) (by simp [results, Try.results23, go_sem]) rfl ⟨rfl, C4.out.since, ((((KeptT.since (S0.out.trans (S1.out.alloc (.cells #[.string f.f0, .int .i64 f.f1, .int .i64 f.f2, .int .i64 f.f3, .int .i64 f.f4, .int .i64 f.f5, .int .i64 f.f6] 44)))).trans K1.out).trans K2.out).trans K3.out)⟩

set_option maxHeartbeats 4000000 in
set_option maxRecDepth 100000 in
theorem instr_no4 (h : Ck w0 w bw bm A0 c0 ws rg A2 n2 c2 n D ve vj ev jm) (hj : jm.length ≤ 50000) (hn : n ≤ 50000) (x : S39) (hx : x.f4.size ≤ 9223372036854775800) (q0 : 0 ≤ plF x.f0) (q1 : numB ws rg D (fmF x.f0).f3 x.f1 x = true) (q2 : numB ws rg D (fmF x.f0).f4 x.f2 x = true) (q3 : numB ws rg D (fmF x.f0).f5 x.f3 x = true) (q4 : textB (fmF x.f0).f6 x.f4 = false) :
    Calls Try.prog 23 #[.pointer (some ⟨bw, 0, none⟩), agI x] w (InsNo w0 w) := by
  obtain ⟨V, hV⟩ : ∃ V, V = w.alloc (.cells #[.string x.f0, .int .i64 x.f1, .int .i64 x.f2, .int .i64 x.f3, .string x.f4] 39) := ⟨_, rfl⟩
  have S0 := Aside0.mk (show Since w V by rw [hV]; exact (Since.refl w).alloc _)
  have HV := Aside0.mk hV
  have HB := Aside0.mk (show V.heap[w.heap.size]? = some (.cells #[.string x.f0, .int .i64 x.f1, .int .i64 x.f2, .int .i64 x.f3, .string x.f4] 39 (0, 0)) by rw [hV]; exact heap_alloc_new w _)
  have HC := Aside0.mk (h.go S0.out)
  have hok := forms_ok x.f0
  have hop := fun h => fm_op (op := x.f0) h
  have hFind := fun w => find_calls w x.f0
  obtain ⟨f, hf⟩ : ∃ f, f = fmF x.f0 := ⟨_, rfl⟩
  obtain ⟨pl, hpl⟩ : ∃ p, p = plF x.f0 := ⟨_, rfl⟩
  rw [← hf] at hok hop hFind
  rw [← hpl] at hop hFind
  have HFind := Aside0.mk (show ∀ w, Calls Try.prog 14 #[.string x.f0] w (fun e w' => e = .returned (.tuple #[.agg #[.string f.f0, .int .i64 f.f1, .int .i64 f.f2, .int .i64 f.f3, .int .i64 f.f4, .int .i64 f.f5, .int .i64 f.f6], .int .i64 pl]) ∧ Since w w') from hFind)
  have HOK := Aside0.mk hok
  have HOP := Aside0.mk hop
  have HF := Aside0.mk (And.intro hf hpl)
  simp only [formOk, Bool.and_eq_true, Bool.or_eq_true, decide_eq_true_eq] at hok
  obtain ⟨⟨⟨⟨⟨⟨⟨⟨⟨⟨⟨e1, e2⟩, e3⟩, e4⟩, e5⟩, e6⟩, e7⟩, e8⟩, e9⟩, e10⟩, e11⟩, e12⟩ := hok
  have NK := Aside0.mk (And.intro e1 (And.intro e2 (And.intro e3 (And.intro e4 e5))))
  have NE := Aside0.mk (And.intro e6 (And.intro e7 (And.intro e8 (And.intro e9 (And.intro e10 (And.intro e11 e12))))))
  rw [← hf] at q1 q2 q3 q4
  rw [← hpl] at q0
  have q0' : decide (pl < 0) = false := decide_eq_false (by omega)
  have T1 := True.intro
  have T2 := True.intro
  have T3 := True.intro
  have Q1 := Aside0.mk q1
  have Q2 := Aside0.mk q2
  have Q3 := Aside0.mk q3
  have Q4 := Aside0.mk q4
  have Q0 := Aside0.mk q0
  have P3 := Aside0.mk (show f.f5 = 3 → isOp x.f0 [109, 97, 116, 99, 104] = false → 0 ≤ x.f1 ∧ x.f1 < 64 from fun h5 hm => by
    rcases NK.out.2.2.2.2 with (h | h) | h
    · exact absurd h5 h
    · rw [HOP.out (by omega)] at h
      exact absurd (show isOp x.f0 [109, 97, 116, 99, 104] = true from h) (by rw [hm]; decide)
    · have h3 : f.f3 = 5 := eq_of_beq h
      have hq := Q1.out
      rw [h3] at hq
      unfold numB at hq
      simpa using hq)
  have P6 := Aside0.mk (show f.f5 = 6 → 0 ≤ x.f2 ∧ x.f2 < ws.length from fun h5 => by
    rcases NE.out.1 with h | h
    · exact absurd h5 h
    · have h3 : f.f4 = 4 := eq_of_beq h
      have hq := Q2.out
      rw [h3] at hq
      unfold numB at hq
      simpa using hq)
  clear hV hf hpl h hFind hop e1 e2 e3 e4 e5 e6 e7 e8 e9 e10 e11 e12 q1 q2 q3 q4
  show Calls Try.prog 23 #[.pointer (some ⟨bw, 0, none⟩), .agg #[.string x.f0, .int .i64 x.f1, .int .i64 x.f2, .int .i64 x.f3, .string x.f4]] w _
  go_enter Try.func23, Try.ntmps23
  go_wp2_with (first
      | (go_at_call 14; rw [← HV.out]; refine (HFind.out V).mono ?_; rintro e1 w1 ⟨rfl, hs1⟩; have S1 := Aside0.mk hs1; have BXa := Aside0.mk (blk_alloc (Cd.blk hs1.b HB.out) (.cells #[.string f.f0, .int .i64 f.f1, .int .i64 f.f2, .int .i64 f.f3, .int .i64 f.f4, .int .i64 f.f5, .int .i64 f.f6] 44)); have BFa := Aside0.mk (heap_alloc_new w1 (.cells #[.string f.f0, .int .i64 f.f1, .int .i64 f.f2, .int .i64 f.f3, .int .i64 f.f4, .int .i64 f.f5, .int .i64 f.f6] 44)); have C1 := Aside0.mk (HC.out.go (hs1.alloc (.cells #[.string f.f0, .int .i64 f.f1, .int .i64 f.f2, .int .i64 f.f3, .int .i64 f.f4, .int .i64 f.f5, .int .i64 f.f6] 44))); have xa0 : (w1.alloc (.cells #[.string f.f0, .int .i64 f.f1, .int .i64 f.f2, .int .i64 f.f3, .int .i64 f.f4, .int .i64 f.f5, .int .i64 f.f6] 44)).cell? ⟨w.heap.size, 0, none⟩ = some (.string x.f0) := (cell_of_heap BXa.out 0).trans rfl; have xa1 : (w1.alloc (.cells #[.string f.f0, .int .i64 f.f1, .int .i64 f.f2, .int .i64 f.f3, .int .i64 f.f4, .int .i64 f.f5, .int .i64 f.f6] 44)).cell? ⟨w.heap.size, 1, none⟩ = some (.int .i64 x.f1) := (cell_of_heap BXa.out 1).trans rfl; have xa2 : (w1.alloc (.cells #[.string f.f0, .int .i64 f.f1, .int .i64 f.f2, .int .i64 f.f3, .int .i64 f.f4, .int .i64 f.f5, .int .i64 f.f6] 44)).cell? ⟨w.heap.size, 2, none⟩ = some (.int .i64 x.f2) := (cell_of_heap BXa.out 2).trans rfl; have xa3 : (w1.alloc (.cells #[.string f.f0, .int .i64 f.f1, .int .i64 f.f2, .int .i64 f.f3, .int .i64 f.f4, .int .i64 f.f5, .int .i64 f.f6] 44)).cell? ⟨w.heap.size, 3, none⟩ = some (.int .i64 x.f3) := (cell_of_heap BXa.out 3).trans rfl; have xa4 : (w1.alloc (.cells #[.string f.f0, .int .i64 f.f1, .int .i64 f.f2, .int .i64 f.f3, .int .i64 f.f4, .int .i64 f.f5, .int .i64 f.f6] 44)).cell? ⟨w.heap.size, 4, none⟩ = some (.string x.f4) := (cell_of_heap BXa.out 4).trans rfl; have fa1 : (w1.alloc (.cells #[.string f.f0, .int .i64 f.f1, .int .i64 f.f2, .int .i64 f.f3, .int .i64 f.f4, .int .i64 f.f5, .int .i64 f.f6] 44)).cell? ⟨w1.heap.size, 1, none⟩ = some (.int .i64 f.f1) := (cell_of_heap BFa.out 1).trans rfl; have fa2 : (w1.alloc (.cells #[.string f.f0, .int .i64 f.f1, .int .i64 f.f2, .int .i64 f.f3, .int .i64 f.f4, .int .i64 f.f5, .int .i64 f.f6] 44)).cell? ⟨w1.heap.size, 2, none⟩ = some (.int .i64 f.f2) := (cell_of_heap BFa.out 2).trans rfl; have fa3 : (w1.alloc (.cells #[.string f.f0, .int .i64 f.f1, .int .i64 f.f2, .int .i64 f.f3, .int .i64 f.f4, .int .i64 f.f5, .int .i64 f.f6] 44)).cell? ⟨w1.heap.size, 3, none⟩ = some (.int .i64 f.f3) := (cell_of_heap BFa.out 3).trans rfl; have fa4 : (w1.alloc (.cells #[.string f.f0, .int .i64 f.f1, .int .i64 f.f2, .int .i64 f.f3, .int .i64 f.f4, .int .i64 f.f5, .int .i64 f.f6] 44)).cell? ⟨w1.heap.size, 4, none⟩ = some (.int .i64 f.f4) := (cell_of_heap BFa.out 4).trans rfl; have fa5 : (w1.alloc (.cells #[.string f.f0, .int .i64 f.f1, .int .i64 f.f2, .int .i64 f.f3, .int .i64 f.f4, .int .i64 f.f5, .int .i64 f.f6] 44)).cell? ⟨w1.heap.size, 5, none⟩ = some (.int .i64 f.f5) := (cell_of_heap BFa.out 5).trans rfl; have fa6 : (w1.alloc (.cells #[.string f.f0, .int .i64 f.f1, .int .i64 f.f2, .int .i64 f.f3, .int .i64 f.f4, .int .i64 f.f5, .int .i64 f.f6] 44)).cell? ⟨w1.heap.size, 6, none⟩ = some (.int .i64 f.f6) := (cell_of_heap BFa.out 6).trans rfl; clear hs1) 
      | (go_at_call 34; have htok := T1; have hN := number_calls C1.out (by omega) f.f3 x.f1 x hx (fun h => absurd h NK.out.1) (fun h => absurd h NK.out.2.1); rw [Q1.out] at hN; refine hN.mono ?_; clear T1 htok hN; rintro e2 w2 ⟨rfl, ⟨vj1, hc2⟩, hk2⟩; have C2 := Aside0.mk hc2; have K1 := Aside0.mk hk2; have BXb := Aside0.mk (hk2.same _ _ 39 (by decide) (by decide) (by decide) BXa.out); have BFb := Aside0.mk (hk2.same _ _ 44 (by decide) (by decide) (by decide) BFa.out); have xb0 : (w2).cell? ⟨w.heap.size, 0, none⟩ = some (.string x.f0) := (cell_of_heap BXb.out 0).trans rfl; have xb1 : (w2).cell? ⟨w.heap.size, 1, none⟩ = some (.int .i64 x.f1) := (cell_of_heap BXb.out 1).trans rfl; have xb2 : (w2).cell? ⟨w.heap.size, 2, none⟩ = some (.int .i64 x.f2) := (cell_of_heap BXb.out 2).trans rfl; have xb3 : (w2).cell? ⟨w.heap.size, 3, none⟩ = some (.int .i64 x.f3) := (cell_of_heap BXb.out 3).trans rfl; have xb4 : (w2).cell? ⟨w.heap.size, 4, none⟩ = some (.string x.f4) := (cell_of_heap BXb.out 4).trans rfl; have fb1 : (w2).cell? ⟨w1.heap.size, 1, none⟩ = some (.int .i64 f.f1) := (cell_of_heap BFb.out 1).trans rfl; have fb2 : (w2).cell? ⟨w1.heap.size, 2, none⟩ = some (.int .i64 f.f2) := (cell_of_heap BFb.out 2).trans rfl; have fb3 : (w2).cell? ⟨w1.heap.size, 3, none⟩ = some (.int .i64 f.f3) := (cell_of_heap BFb.out 3).trans rfl; have fb4 : (w2).cell? ⟨w1.heap.size, 4, none⟩ = some (.int .i64 f.f4) := (cell_of_heap BFb.out 4).trans rfl; have fb5 : (w2).cell? ⟨w1.heap.size, 5, none⟩ = some (.int .i64 f.f5) := (cell_of_heap BFb.out 5).trans rfl; have fb6 : (w2).cell? ⟨w1.heap.size, 6, none⟩ = some (.int .i64 f.f6) := (cell_of_heap BFb.out 6).trans rfl; clear hc2 hk2) 
      | (go_at_call 34; have htok := T2; have hN := number_calls C2.out (by have := numJ_len f.f3 x.f1 jm; omega) f.f4 x.f2 x hx (fun h => absurd h NK.out.2.2.1) (fun h => absurd h NK.out.2.2.2.1); rw [Q2.out] at hN; refine hN.mono ?_; clear T2 htok hN; rintro e2 w3 ⟨rfl, ⟨vj2, hc2⟩, hk2⟩; have C3 := Aside0.mk hc2; have K2 := Aside0.mk hk2; have BXc := Aside0.mk (hk2.same _ _ 39 (by decide) (by decide) (by decide) BXb.out); have BFc := Aside0.mk (hk2.same _ _ 44 (by decide) (by decide) (by decide) BFb.out); have xc0 : (w3).cell? ⟨w.heap.size, 0, none⟩ = some (.string x.f0) := (cell_of_heap BXc.out 0).trans rfl; have xc1 : (w3).cell? ⟨w.heap.size, 1, none⟩ = some (.int .i64 x.f1) := (cell_of_heap BXc.out 1).trans rfl; have xc2 : (w3).cell? ⟨w.heap.size, 2, none⟩ = some (.int .i64 x.f2) := (cell_of_heap BXc.out 2).trans rfl; have xc3 : (w3).cell? ⟨w.heap.size, 3, none⟩ = some (.int .i64 x.f3) := (cell_of_heap BXc.out 3).trans rfl; have xc4 : (w3).cell? ⟨w.heap.size, 4, none⟩ = some (.string x.f4) := (cell_of_heap BXc.out 4).trans rfl; have fc1 : (w3).cell? ⟨w1.heap.size, 1, none⟩ = some (.int .i64 f.f1) := (cell_of_heap BFc.out 1).trans rfl; have fc2 : (w3).cell? ⟨w1.heap.size, 2, none⟩ = some (.int .i64 f.f2) := (cell_of_heap BFc.out 2).trans rfl; have fc3 : (w3).cell? ⟨w1.heap.size, 3, none⟩ = some (.int .i64 f.f3) := (cell_of_heap BFc.out 3).trans rfl; have fc4 : (w3).cell? ⟨w1.heap.size, 4, none⟩ = some (.int .i64 f.f4) := (cell_of_heap BFc.out 4).trans rfl; have fc5 : (w3).cell? ⟨w1.heap.size, 5, none⟩ = some (.int .i64 f.f5) := (cell_of_heap BFc.out 5).trans rfl; have fc6 : (w3).cell? ⟨w1.heap.size, 6, none⟩ = some (.int .i64 f.f6) := (cell_of_heap BFc.out 6).trans rfl; clear hc2 hk2) 
      | (go_at_call 34; have htok := T3; have hN := number_calls C3.out (by have := numJ_len f.f3 x.f1 jm; have := numJ_len f.f4 x.f2 (numJ f.f3 x.f1 jm); omega) f.f5 x.f3 x hx P3.out P6.out; rw [Q3.out] at hN; refine hN.mono ?_; clear T3 htok hN; rintro e2 w4 ⟨rfl, ⟨vj3, hc2⟩, hk2⟩; have C4 := Aside0.mk hc2; have K3 := Aside0.mk hk2; have BXd := Aside0.mk (hk2.same _ _ 39 (by decide) (by decide) (by decide) BXc.out); have BFd := Aside0.mk (hk2.same _ _ 44 (by decide) (by decide) (by decide) BFc.out); have xd0 : (w4).cell? ⟨w.heap.size, 0, none⟩ = some (.string x.f0) := (cell_of_heap BXd.out 0).trans rfl; have xd1 : (w4).cell? ⟨w.heap.size, 1, none⟩ = some (.int .i64 x.f1) := (cell_of_heap BXd.out 1).trans rfl; have xd2 : (w4).cell? ⟨w.heap.size, 2, none⟩ = some (.int .i64 x.f2) := (cell_of_heap BXd.out 2).trans rfl; have xd3 : (w4).cell? ⟨w.heap.size, 3, none⟩ = some (.int .i64 x.f3) := (cell_of_heap BXd.out 3).trans rfl; have xd4 : (w4).cell? ⟨w.heap.size, 4, none⟩ = some (.string x.f4) := (cell_of_heap BXd.out 4).trans rfl; have fd1 : (w4).cell? ⟨w1.heap.size, 1, none⟩ = some (.int .i64 f.f1) := (cell_of_heap BFd.out 1).trans rfl; have fd2 : (w4).cell? ⟨w1.heap.size, 2, none⟩ = some (.int .i64 f.f2) := (cell_of_heap BFd.out 2).trans rfl; have fd3 : (w4).cell? ⟨w1.heap.size, 3, none⟩ = some (.int .i64 f.f3) := (cell_of_heap BFd.out 3).trans rfl; have fd4 : (w4).cell? ⟨w1.heap.size, 4, none⟩ = some (.int .i64 f.f4) := (cell_of_heap BFd.out 4).trans rfl; have fd5 : (w4).cell? ⟨w1.heap.size, 5, none⟩ = some (.int .i64 f.f5) := (cell_of_heap BFd.out 5).trans rfl; have fd6 : (w4).cell? ⟨w1.heap.size, 6, none⟩ = some (.int .i64 f.f6) := (cell_of_heap BFd.out 6).trans rfl; clear hc2 hk2) 
      | (go_at_call 35; have hT := texts_calls f.f6 x.f4 hx w4; rw [Q4.out] at hT; refine hT.mono ?_; clear hT; rintro e5 w5 ⟨rfl, hs5⟩; have S5 := Aside0.mk hs5; have C5 := Aside0.mk (C4.out.go hs5); have BXe := Aside0.mk (Cd.blk hs5.b BXd.out); have BFe := Aside0.mk (Cd.blk hs5.b BFd.out); have xe0 : (w5).cell? ⟨w.heap.size, 0, none⟩ = some (.string x.f0) := (cell_of_heap BXe.out 0).trans rfl; have xe1 : (w5).cell? ⟨w.heap.size, 1, none⟩ = some (.int .i64 x.f1) := (cell_of_heap BXe.out 1).trans rfl; have xe2 : (w5).cell? ⟨w.heap.size, 2, none⟩ = some (.int .i64 x.f2) := (cell_of_heap BXe.out 2).trans rfl; have xe3 : (w5).cell? ⟨w.heap.size, 3, none⟩ = some (.int .i64 x.f3) := (cell_of_heap BXe.out 3).trans rfl; have xe4 : (w5).cell? ⟨w.heap.size, 4, none⟩ = some (.string x.f4) := (cell_of_heap BXe.out 4).trans rfl; have fe1 : (w5).cell? ⟨w1.heap.size, 1, none⟩ = some (.int .i64 f.f1) := (cell_of_heap BFe.out 1).trans rfl; have fe2 : (w5).cell? ⟨w1.heap.size, 2, none⟩ = some (.int .i64 f.f2) := (cell_of_heap BFe.out 2).trans rfl; have fe3 : (w5).cell? ⟨w1.heap.size, 3, none⟩ = some (.int .i64 f.f3) := (cell_of_heap BFe.out 3).trans rfl; have fe4 : (w5).cell? ⟨w1.heap.size, 4, none⟩ = some (.int .i64 f.f4) := (cell_of_heap BFe.out 4).trans rfl; have fe5 : (w5).cell? ⟨w1.heap.size, 5, none⟩ = some (.int .i64 f.f5) := (cell_of_heap BFe.out 5).trans rfl; have fe6 : (w5).cell? ⟨w1.heap.size, 6, none⟩ = some (.int .i64 f.f6) := (cell_of_heap BFe.out 6).trans rfl; have c5 := C5.out.c; clear hs5))
  exact bodyPost_ret (v := .tuple #[.int .i64 0, .int .i64 0, .bool false]) (by simp [results, Try.results23, go_sem]) rfl ⟨rfl, C5.out.since, (((((KeptT.since (S0.out.trans (S1.out.alloc (.cells #[.string f.f0, .int .i64 f.f1, .int .i64 f.f2, .int .i64 f.f3, .int .i64 f.f4, .int .i64 f.f5, .int .i64 f.f6] 44)))).trans K1.out).trans K2.out).trans K3.out).trans (KeptT.since S5.out))⟩

end
end Go.Proofs.Ytdecgknnbegobaa.Cd
