/- Own texts, joined and cut to what the claim stands on: RlDup. -/
import Derived.Test.YtcmllllbmgcnlaaGreatM30
import Derived.Test.YtcmllllbmgcnlaaGreatM31
import Derived.Test.YtcmllllbmgcnlaaGreatM32
import Derived.Test.YtcmllllbmgcnlaaGreatM7
section
namespace Go.Proofs.YtcmllllbmgcnlaaGreat.Rl
open Go.RowKit Go.Lib Go.Shelf Go.Proofs.YtcmllllbmgcnlaaGreat.G Go.Proofs.YtcmllllbmgcnlaaGreat.Tup Go.Proofs.YtcmllllbmgcnlaaGreatW.PrintWords Go.Proofs.YtcmllllbmgcnlaaGreatW.PrintLast Go.Proofs.YtcmllllbmgcnlaaGreatW.PrintMore
open Go.Proofs.YtcmllllbmgcnlaaGreat.Ch (rwrongS pickS pickS_some)
set_option linter.unusedVariables false
set_option linter.unusedSimpArgs false
theorem rfind_seq {ok : Nat → Prop} {w : World} {br wd : Nat} {os : List Tp} {R : List Row} {m : Nat} {bss : List Nat} (h : RelAt ok w br wd os R m bss) (Bs Bk Bi : Nat) (hBs : w.cell? ⟨Bs, 0, none⟩ = some (.pointer (some ⟨br, 0, none⟩))) (cols : Int) (hBi : w.cell? ⟨Bi, 0, none⟩ = some (.int .i64 cols)) (Ak : Option Addr) (ck : Nat) (t : Tp) (hBk : w.cell? ⟨Bk, 0, none⟩ = some (.slice Ak t.length ck)) (st : Sl w Ak ck t) :
    Seq2R Fence.wide Tryz.prog 45 #[.pointer (some ⟨Bs, 0, none⟩), .pointer (some ⟨Bk, 0, none⟩), .pointer (some ⟨Bi, 0, none⟩)] (findL wd R cols t) w := by
  by_cases hin : t.length = wd ∧ 0 ≤ cols ∧ cols < 2 ^ wd
  · cases hs : (pickS cols 0 os).2
    · exact rfind_other h Bs Bk Bi hBs cols hBi Ak ck t hBk st hin.1 hin.2.1 hin.2.2 hs
    · exact rfind_served h Bs Bk Bi hBs cols hBi Ak ck t hBk st hin.1 hin.2.1 hin.2.2 hs
  · exact rfind_early h Bs Bk Bi hBs cols hBi Ak ck t hBk hin
def FindRows (ok : Nat → Prop) (w : World) (ys : List Row) (e : Ending) (w' : World) : Prop :=
  ∃ q1 q2 q3 : Value, e = .returned (.func (.func 45) #[] #[q1, q2, q3]) ∧ Below w.heap.size w w' ∧ Aside0 (Calls Tryz.prog 21 #[.func (.func 45) #[] #[q1, q2, q3]] w' (RowsR w' ys))
theorem find_rows {ok : Nat → Prop} {w : World} {br wd : Nat} {os : List Tp} {R : List Row} {m : Nat} {bss : List Nat} (h : RelAt ok w br wd os R m bss) (cols : Int) (A : Option Addr) (c : Nat) (t : Tp) (st : Sl w A c t) (hz : t.length * 8 ≤ 140737488351232) :
    Calls Tryz.prog 22 #[.pointer (some ⟨br, 0, none⟩), .int .i64 cols, .slice A t.length c] w (FindRows ok w (findL wd R cols t)) := by
  refine (rfind_calls w (some ⟨br, 0, none⟩) cols A c t st hz).mono ?_
  rintro e w' ⟨q1, q2, q3, Ak, ck, rfl, e1, e2, e3, hck, hF, hb⟩
  have h2 := h.below hb
  exact ⟨_, _, _, rfl, hb, ⟨rows_calls w' _ _ find_enters _ (fun x hx => h.hR.nt x (findL_sub hx)) (Nat.le_trans (findL_len _ _ _ _) h.hR.le) (rfind_seq h2 q1 q2 q3 e1 cols e2 Ak ck t e3 ⟨Kd.F_now hF, hck⟩)⟩⟩
structure One (w : World) (b wd m : Nat) (bss : List Nat) (os : List Tp) (R : List Row) (other : Nat → Prop) : Prop where
  ex : ∃ ok, RelAt ok w b wd os R m bss ∧ ∀ k, other k → ¬ (ok k ∨ k = b ∨ k = m ∨ k ∈ bss)
theorem One.kept {w w' : World} {b wd m : Nat} {bss : List Nat} {os : List Tp} {R : List Row} {other : Nat → Prop} (h : One w b wd m bss os R other) (hk : KeptS other w w') : One w' b wd m bss os R other := by
  obtain ⟨ok, hr, ha⟩ := h.ex
  exact ⟨ok, hr.kept hk fun k hk' _ ho => ha k ho hk', ha⟩
theorem One.below {w w' : World} {b wd m : Nat} {bss : List Nat} {os : List Tp} {R : List Row} {other : Nat → Prop} (h : One w b wd m bss os R other) (hb : Below w.heap.size w w') : One w' b wd m bss os R other := by
  obtain ⟨ok, hr, ha⟩ := h.ex
  exact ⟨ok, hr.below hb, ha⟩
structure Dup (W : World) (b1 b2 wd m1 m2 : Nat) (bs1 bs2 : List Nat) (os1 os2 : List Tp) (R1 R2 : List Row) (w : World) : Prop where
  one : One w b1 wd m1 bs1 os1 R1 (fun k => k = m2 ∨ k ∈ bs2)
  two : One w b2 wd m2 bs2 os2 R2 (fun k => k = m1 ∨ k ∈ bs1)
  b : Below W.heap.size W w
  new1 : W.heap.size ≤ m1 ∧ ∀ b ∈ bs1, W.heap.size ≤ b
  new2 : W.heap.size ≤ m2 ∧ ∀ b ∈ bs2, W.heap.size ≤ b
theorem Dup.symm {W w : World} {b1 b2 wd m1 m2 : Nat} {bs1 bs2 : List Nat} {os1 os2 : List Tp} {R1 R2 : List Row} (h : Dup W b1 b2 wd m1 m2 bs1 bs2 os1 os2 R1 R2 w) : Dup W b2 b1 wd m2 m1 bs2 bs1 os2 os1 R2 R1 w := ⟨h.two, h.one, h.b, h.new2, h.new1⟩
theorem Dup.below {W w w' : World} {b1 b2 wd m1 m2 : Nat} {bs1 bs2 : List Nat} {os1 os2 : List Tp} {R1 R2 : List Row} (h : Dup W b1 b2 wd m1 m2 bs1 bs2 os1 os2 R1 R2 w) (hb : Below w.heap.size w w') : Dup W b1 b2 wd m1 m2 bs1 bs2 os1 os2 R1 R2 w' := ⟨h.one.below hb, h.two.below hb, below_then h.b h.b.size hb, h.new1, h.new2⟩
theorem Dup.put {W w : World} {b1 b2 wd m1 m2 : Nat} {bs1 bs2 : List Nat} {os1 os2 : List Tp} {R1 R2 : List Row} (h : Dup W b1 b2 wd m1 m2 bs1 bs2 os1 os2 R1 R2 w) (x y : Nat) {A : Option Addr} {c : Nat} {t : Tp} (hs : Sl W A c t) :
    Calls Tryz.prog 13 #[.pointer (some ⟨b1, 0, none⟩), .complex .f64 x y, .slice A t.length c] w fun e w' => e = .returned (.tuple #[.bool (putC wd R1 t x y).2.1, .int .i64 (putC wd R1 t x y).2.2]) ∧ Dup W b1 b2 wd m1 m2 bs1 bs2 os1 os2 (putC wd R1 t x y).1 R2 w' := by
  obtain ⟨ok, hr, ha⟩ := h.one.ex
  have hlow : ∀ k, k < W.heap.size → ¬ (k = m1 ∨ k ∈ bs1) := fun k hk hS => hS.elim (fun e => by have := h.new1.1; omega) (fun hm => by have := h.new1.2 k hm; omega)
  refine (rput_calls hr x y A c t (fun w' hk => hs.below (hk.below_of h.b hlow))).mono fun e w' hp => ⟨hp.1, ⟨⟨_, hp.2.1, fun k ho => ?_⟩, h.two.kept hp.2.2, hp.2.2.below_of h.b hlow, h.new1, h.new2⟩⟩
  have hlt : k < w.heap.size := by
    obtain ⟨ok2, hr2, _⟩ := h.two.ex
    exact ho.elim (fun e => e ▸ hr2.map.lt) fun hm => hr2.blt k hm
  rintro ((hk | hk) | hk)
  · exact ha k ho (.inl hk)
  · omega
  · exact ha k ho (.inr hk)
theorem RelAt.bound {ok : Nat → Prop} {W : World} {br wd : Nat} {os : List Tp} {R : List Row} {m : Nat} {bss : List Nat} (h : RelAt ok W br wd os R m bss) : RelAt (fun k => ok k ∧ k < W.heap.size) W br wd os R m bss := by
  obtain ⟨Ao, co, As, cs, hp, h1, h2, h3, h4⟩ := h.hp
  exact ⟨⟨Ao, co, As, cs, hp, h1, h2, Kd.F_bound h3, Kd.F_bound h4⟩, h.hos, h.hR, h.map, h.len, fun j h1 h2 => by
    obtain ⟨A, c, rt, T, hS, hT⟩ := h.sets j h1 h2
    exact ⟨A, c, rt, T, hS.bound, hT⟩, h.nd, fun b hb => ⟨fun hk => (h.nb b hb).1 hk.1, (h.nb b hb).2⟩, ⟨fun hk => h.nr.1 hk.1, h.nr.2⟩, fun hk => h.nm hk.1⟩
theorem dup_made {W w1 w2 : World} {n : Nat} {e1 e2 : Ending} (h1 : MadeR W n e1 w1) (h2 : MadeR w1 n e2 w2) : ∃ b1 b2 m1 m2 bs1 bs2 os1 os2, e1 = .returned (.tuple #[.pointer (some ⟨b1, 0, none⟩), .int .i64 0]) ∧ e2 = .returned (.tuple #[.pointer (some ⟨b2, 0, none⟩), .int .i64 0]) ∧ Dup W b1 b2 n m1 m2 bs1 bs2 os1 os2 [] [] w2 := by
  obtain ⟨b1, wd1, os1, m1, bs1, hwd1, rfl, hb1, g1, g2, g3, hR1⟩ := h1
  obtain ⟨b2, wd2, os2, m2, bs2, hwd2, rfl, hb2, k1, k2, k3, hR2⟩ := h2
  obtain rfl : wd1 = n := by omega
  obtain rfl : wd2 = wd1 := by omega
  have q1 := hR1.lt
  have q2 := hR1.map.lt
  have q3 := hR1.blt
  have hs1 := hb1.size
  refine ⟨b1, b2, m1, m2, bs1, bs2, os1, os2, rfl, rfl, ⟨⟨_, hR1.bound.below hb2, fun k ho => ?_⟩, ⟨_, hR2, fun k ho => ?_⟩, below_then hb1 hs1 hb2, ⟨g2, g3⟩, ⟨by omega, fun b hb => by have := k3 b hb; omega⟩⟩⟩
  · have hk : w1.heap.size ≤ k := ho.elim (fun e => e ▸ k2) fun hm => k3 k hm
    rintro (hk' | rfl | rfl | hk')
    · have := hk'.2; omega
    · omega
    · omega
    · have := q3 k hk'; omega
  · have hk : k < w1.heap.size := ho.elim (fun e => e ▸ q2) fun hm => q3 k hm
    rintro (hk' | rfl | rfl | hk')
    · have := hk'.1; omega
    · omega
    · omega
    · have := k3 k hk'; omega
end Go.Proofs.YtcmllllbmgcnlaaGreat.Rl
end
