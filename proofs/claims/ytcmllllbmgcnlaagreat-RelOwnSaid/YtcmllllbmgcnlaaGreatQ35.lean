/- Own texts, joined and cut to what the claim stands on: RlSort, RlSeqT. -/
import Derived.Maps.AppendAt
import Derived.Shelf.SlSortCmp.WholeK
import Derived.Shelf.SlSortCmp.NoneTotal
import Derived.Shelf.Lay
import Derived.Ground.SlsfProg
import Derived.Test.YtcmllllbmgcnlaaGreatQ34
import Derived.Test.YtcmllllbmgcnlaaGreatQ20
section
namespace Go.Proofs.YtcmllllbmgcnlaaGreat.Rl
open Go.Shelf Go.Sort Go.Lib Go.RowKit Go.Proofs.YtcmllllbmgcnlaaGreat.G Go.Proofs.YtcmllllbmgcnlaaGreat.Tup Go.Proofs.YtcmllllbmgcnlaaGreatW.PrintWords Go.Proofs.YtcmllllbmgcnlaaGreatW.PrintLast Go.Proofs.YtcmllllbmgcnlaaGreatW.PrintMore
set_option linter.unusedVariables false
set_option linter.unusedSimpArgs false
def Tryz.sortRow_ren : Go.Shelf.Ren := ⟨fun | 6 => 71 | 15 => 95 | 14 => 94 | 28 => 120 | 29 => 121 | 20 => 112 | 21 => 113 | 22 => 114 | 23 => 115 | 24 => 116 | 25 => 117 | 26 => 118 | 27 => 119 | 46 => 129 | 47 => 130 | 48 => 131 | 49 => 132 | 50 => 133 | 57 => 145 | n => n, fun | 22 => 137 | 24 => 139 | 25 => 142 | 3 => 3 | 39 => 136 | 0 => 0 | 53 => 154 | 55 => 156 | 4 => 4 | 46 => 173 | 45 => 172 | 50 => 101 | 5 => 5 | 9 => 9 | 66 => 181 | 70 => 185 | 76 => 195 | 77 => 119 | n => n, fun | n => n⟩
theorem Tryz.sortRow : Go.Proofs.SlLaysF0.n6 Tryz.prog Tryz.sortRow_ren := {
  mixed := by kernel_rfl
  f6 := ⟨Tryz.f71.name, by decide, Tryz.func71.trans (congrArg some (by kernel_rfl))⟩
  f14 := ⟨Tryz.f94.name, by decide, Tryz.func94.trans (congrArg some (by kernel_rfl))⟩
  f15 := Tryz.func95.trans (congrArg some (by kernel_rfl))
  f20 := ⟨Tryz.f112.name, by decide, Tryz.func112.trans (congrArg some (by kernel_rfl))⟩
  f21 := ⟨Tryz.f113.name, by decide, Tryz.func113.trans (congrArg some (by kernel_rfl))⟩
  f22 := ⟨Tryz.f114.name, by decide, Tryz.func114.trans (congrArg some (by kernel_rfl))⟩
  f23 := ⟨Tryz.f115.name, by decide, Tryz.func115.trans (congrArg some (by kernel_rfl))⟩
  f24 := ⟨Tryz.f116.name, by decide, Tryz.func116.trans (congrArg some (by kernel_rfl))⟩
  f25 := ⟨Tryz.f117.name, by decide, Tryz.func117.trans (congrArg some (by kernel_rfl))⟩
  f26 := ⟨Tryz.f118.name, by decide, Tryz.func118.trans (congrArg some (by kernel_rfl))⟩
  f27 := ⟨Tryz.f119.name, by decide, Tryz.func119.trans (congrArg some (by kernel_rfl))⟩
  f28 := Tryz.func120.trans (congrArg some (by kernel_rfl))
  f29 := Tryz.func121.trans (congrArg some (by kernel_rfl))
  f46 := ⟨Tryz.f129.name, by decide, Tryz.func129.trans (congrArg some (by kernel_rfl))⟩
  f47 := Tryz.func130.trans (congrArg some (by kernel_rfl))
  f48 := Tryz.func131.trans (congrArg some (by kernel_rfl))
  f49 := ⟨Tryz.f132.name, by decide, Tryz.func132.trans (congrArg some (by kernel_rfl))⟩
  f50 := ⟨Tryz.f133.name, by decide, Tryz.func133.trans (congrArg some (by kernel_rfl))⟩
  f57 := ⟨Tryz.f145.name, by decide, Tryz.func145.trans (congrArg some (by kernel_rfl))⟩
  t0 := Tryz.underlying0
  a0 := Tryz.isAgg0
  z0 := Tryz.sizeOf0
  v0 := Tryz.zeroValue0
  t3 := Tryz.underlying3
  a3 := Tryz.isAgg3
  z3 := Tryz.sizeOf3
  v3 := Tryz.zeroValue3
  t4 := Tryz.underlying4
  a4 := Tryz.isAgg4
  z4 := Tryz.sizeOf4
  v4 := Tryz.zeroValue4
  t5 := Tryz.underlying5
  a5 := Tryz.isAgg5
  z5 := Tryz.sizeOf5
  v5 := Tryz.zeroValue5
  t9 := Tryz.underlying9
  a9 := Tryz.isAgg9
  z9 := Tryz.sizeOf9
  v9 := Tryz.zeroValue9
  t22 := Tryz.underlying137
  a22 := Tryz.isAgg137
  z22 := Tryz.sizeOf137
  v22 := Tryz.zeroValue137
  t25 := Tryz.underlying142
  a25 := Tryz.isAgg142
  z25 := Tryz.sizeOf142
  v25 := Tryz.zeroValue142
  t39 := Tryz.underlying136
  a39 := Tryz.isAgg136
  z39 := Tryz.sizeOf136
  v39 := Tryz.zeroValue136
  t45 := Tryz.underlying172
  a45 := Tryz.isAgg172
  z45 := Tryz.sizeOf172
  v45 := Tryz.zeroValue172
  t46 := Tryz.underlying173
  a46 := Tryz.isAgg173
  z46 := Tryz.sizeOf173
  v46 := Tryz.zeroValue173
  t50 := Tryz.underlying101
  a50 := Tryz.isAgg101
  z50 := Tryz.sizeOf101
  v50 := Tryz.zeroValue101
  t53 := Tryz.underlying154
  a53 := Tryz.isAgg154
  z53 := Tryz.sizeOf154
  v53 := Tryz.zeroValue154
  t55 := Tryz.underlying156
  a55 := Tryz.isAgg156
  z55 := Tryz.sizeOf156
  v55 := Tryz.zeroValue156
  t66 := Tryz.underlying181
  a66 := Tryz.isAgg181
  z66 := Tryz.sizeOf181
  v66 := Tryz.zeroValue181
  t70 := Tryz.underlying185
  a70 := Tryz.isAgg185
  z70 := Tryz.sizeOf185
  v70 := Tryz.zeroValue185
  t76 := Tryz.underlying195
  a76 := Tryz.isAgg195
  z76 := Tryz.sizeOf195
  v76 := Tryz.zeroValue195
  t77 := Tryz.underlying119
  a77 := Tryz.isAgg119
  z77 := Tryz.sizeOf119
  v77 := Tryz.zeroValue119 }
abbrev Good (wd : Nat) (W : World) : Type := { e : Elt // e.t.length = wd ∧ e.At W 0 }
def Good.enc {wd : Nat} {W : World} (e : Good wd W) : List Value := e.1.enc
def Good.cf {wd : Nat} {W : World} (a b : Good wd W) : Int := cmpL (plainO wd) a.1.t b.1.t
theorem Elt.At.weaken {e : Elt} {W : World} {b b' : Nat} (h : e.At W b) (hb : b' ≤ b) : e.At W b' := own_weaken h hb
theorem flat_get {α : Type} (enc : α → List Value) (hk : ∀ x, (enc x).length = 2) : ∀ (L : List α) (t : Nat), (L.flatMap enc)[t]? = (L[t / 2]?).bind fun x => (enc x)[t % 2]?
  | [], t => by simp
  | x :: L, 0 => by
    rw [List.flatMap_cons, List.getElem?_append_left (by rw [hk]; decide)]; rfl
  | x :: L, 1 => by
    rw [List.flatMap_cons, List.getElem?_append_left (by rw [hk]; decide)]; rfl
  | x :: L, t + 2 => by
    rw [List.flatMap_cons, List.getElem?_append_right (by rw [hk]; omega), hk, Nat.add_sub_cancel, flat_get enc hk L t, show (t + 2) / 2 = t / 2 + 1 from by omega, show (t + 2) % 2 = t % 2 from by omega]
    simp
theorem flat_len {α : Type} (enc : α → List Value) (hk : ∀ x, (enc x).length = 2) : ∀ (L : List α), (L.flatMap enc).length = L.length * 2
  | [] => rfl
  | x :: L => by rw [List.flatMap_cons, List.length_append, hk, flat_len enc hk L, List.length_cons]; omega
theorem flatK_list {α : Type} [Inhabited α] (enc : α → List Value) (hk : ∀ x, (enc x).length = 2) (d : Array α) : flatK enc 2 d = (d.toList.flatMap enc).toArray := by
  refine Array.ext ?_ fun t h1 h2 => ?_
  · rw [size_flatK]; simp [flat_len enc hk]
  · have hs : t < d.size * 2 := by simpa using h1
    have := get_flatK enc 2 d t hs
    rw [getElem!_pos _ t h1] at this
    rw [this]
    have h3 := flat_get enc hk d.toList t
    have ht2 : t / 2 < d.size := by omega
    have h5 : d.toList[t / 2]? = some (d[t / 2]'ht2) := by simp [ht2]
    rw [h5, Option.bind_some] at h3
    have hm : t % 2 < (enc d[t / 2]).length := by rw [hk]; omega
    rw [List.getElem?_eq_getElem hm] at h3
    have h4 := (List.getElem?_eq_some_iff.1 h3).2
    simp only [List.getElem_toArray]
    have h6 : d[t / 2]! = d[t / 2]'ht2 := by simp [ht2]
    rw [h4, h6]
    simp [hm]
theorem holds2 {W : World} {base e g n cap : Nat} {us : List Value} (h : W.ownsRow base e 2 (.slice (some ⟨g, 0, none⟩) n cap) n us) : g < W.heap.size ∧ Holds id W g 0 us.toArray := by
  rcases h.2 with ⟨e0, _⟩ | ⟨g', cap', cur, e0, hb, hg, hn, hm, hs, ht⟩
  · cases e0
  · injection e0 with e1 _ e3
    injection e1 with e1
    injection e1 with e1
    subst e1 e3
    refine ⟨(Array.getElem?_eq_some_iff.1 hg).1, fun j hj => ?_⟩
    have hj' : j < us.length := by simpa using hj
    have hl := h.1
    refine ⟨?_, by simp [World.frozen?, hg]⟩
    have e1 : (cur.toList.take (n * 2))[j]? = us[j]? := by rw [ht]
    rw [List.getElem?_take, if_pos (by omega), Array.getElem?_toList] at e1
    simp only [World.cell?, hg, Nat.zero_add]
    simp only [Option.isSome_none, Bool.false_eq_true, if_false]
    rw [e1]
    simp [getElem!_pos, hj']
theorem put2 {W : World} {base e g n cap q : Nat} {us ys : List Value} (h : W.ownsRow base e 2 (.slice (some ⟨g, 0, none⟩) n cap) n us) (hy : ys.length = us.length) :
    (putRow id (Sort.ahead W q) g 0 ys.toArray).ownsRow base e 2 (.slice (some ⟨g, 0, none⟩) n cap) n ys := by
  have hl := h.1
  rcases h.2 with ⟨e0, _⟩ | ⟨g', cap', cur, e0, hb, hg, hn, hm, hs, ht⟩
  · cases e0
  · injection e0 with e1 _ e3
    injection e1 with e1
    injection e1 with e1
    subst e1 e3
    refine ⟨by omega, .inr ⟨g, cap, putCells id 0 ys.toArray cur, rfl, hb, ?_, hn, hm, by simpa [putCells] using hs, ?_⟩⟩
    · simp [putRow, mapBlock, Sort.ahead, Array.getElem?_modify, hg, onCells]
    · apply List.ext_getElem?
      intro j
      rw [List.getElem?_take, Array.getElem?_toList]
      by_cases hj : j < n * 2
      · have hjc : j < cur.size := by have := Nat.mul_le_mul_right 2 hn; omega
        simp only [if_pos hj, putCells, Array.getElem?_mapIdx, Array.getElem?_eq_getElem hjc, Option.map_some]
        rw [if_pos (by simp; omega), List.getElem?_eq_getElem (by omega)]
        simp [getElem!_pos, show j < ys.length by omega]
      · rw [if_neg hj, List.getElem?_eq_none (by omega)]
theorem put2_other (W : World) (g q : Nat) (d : Array Value) (k : Nat) (hk : k ≠ g) : (putRow id (Sort.ahead W q) g 0 d).heap[k]? = W.heap[k]? := by
  simp [putRow, mapBlock, Sort.ahead, Array.getElem?_modify, Ne.symm hk]
theorem put2_size (W : World) (g q : Nat) (d : Array Value) : (putRow id (Sort.ahead W q) g 0 d).heap.size = W.heap.size := by
  simp [putRow, mapBlock, Sort.ahead]
theorem cmpL_swo (wd : Nat) (W : World) : SWO (ltOf (Good.cf (wd := wd) (W := W))) where
  irrefl x := by
    have : cmpL (plainO wd) x.1.t x.1.t = 0 := (cmpL_zero _ _ _).2 fun _ _ => rfl
    simp [ltOf, Good.cf, this]
  trans x y z h1 h2 := decide_eq_true (Lt.trans (o := plainO wd) (of_decide_eq_true h1) (of_decide_eq_true h2))
  ntrans x y z h1 h2 := by
    have h1' : ¬ cmpL (plainO wd) x.1.t y.1.t < 0 := of_decide_eq_false h1
    have h2' : ¬ cmpL (plainO wd) y.1.t z.1.t < 0 := of_decide_eq_false h2
    refine decide_eq_false (show ¬ cmpL (plainO wd) x.1.t z.1.t < 0 from ?_)
    have e1 := cmpL_flip (plainO wd) x.1.t y.1.t
    have e2 := cmpL_flip (plainO wd) y.1.t z.1.t
    have e3 := cmpL_flip (plainO wd) x.1.t z.1.t
    have := cmpL_trans (plainO wd) z.1.t y.1.t x.1.t (by omega) (by omega)
    omega
set_option maxHeartbeats 4000000 in
set_option maxRecDepth 100000 in
theorem cmp1_calls (V : World) (wd : Nat) (h8 : wd ≤ 1000) (A : Option Addr) (c : Nat) (t : Tp) (n1 n2 : Nat) (B : Option Addr) (d : Nat) (s : Tp) (m1 m2 : Nat) (ht : Sl V A c t) (hs : Sl V B d s) (hlt : t.length = wd) (hls : s.length = wd) :
    Calls Tryz.prog 72 #[.agg #[.slice A wd c, .complex .f64 n1 n2], .agg #[.slice B wd d, .complex .f64 m1 m2]] V fun e w' => e = .returned (.int .i64 (cmpL (plainO wd) t s)) ∧ ∃ q os', w' = grow (V.drewN q) os' := by
  obtain ⟨r, hr⟩ : ∃ r, r = cmpL (plainO wd) t s := ⟨_, rfl⟩
  have HC := Aside0.mk (fun (w2 : World) (hb : Below V.heap.size V w2) => compare_calls w2 wd A c t B d s (ht.below hb) (hs.below hb) hlt hls h8)
  rw [← hr] at HC ⊢
  clear ht hs hlt hls hr
  go_enter Tryz.func72, Tryz.ntmps72
  have hb2 : Below V.heap.size V ((V.alloc (.cells #[.slice A wd c, .complex .f64 n1 n2] 139)).alloc (.cells #[.slice B wd d, .complex .f64 m1 m2] 139)) := below_alloc (below_alloc (Below.refl _ _) _) _
  have HB2 := Aside0.mk hb2
  clear hb2
  go_wp2_with (go_at_call 73; refine (HC.out _ HB2.out).mono ?_; rintro e w' ⟨rfl, ⟨q, rfl⟩⟩)
  go_ret
  refine ⟨rfl, q, #[.cells #[.slice A wd c, .complex .f64 n1 n2] 139, .cells #[.slice B wd d, .complex .f64 m1 m2] 139], ?_⟩
  rw [alloc_eq_grow, alloc_eq_grow, grow_grow]
  rfl
theorem own_sl {V : World} {base c : Nat} {A : Option Addr} {t : Tp} (h : V.ownsRow base 3 1 (.slice A t.length c) t.length (t.map (Value.int .i64))) : Sl V A c t := by
  obtain ⟨A', c', e, hle, hF⟩ := rows_in (d := Kd.int .i64) (ok := fun _ => False) rfl h (Els.of (by simp) fun i hi hu => by rw [List.getElem_map]; exact fun W' _ => rfl) rfl
  injection e with e1 e2 e3
  subst e1 e3
  exact ⟨Kd.F_now hF, hle⟩
theorem sort_some (W : World) (wd base N g n cap : Nat) (h8 : wd ≤ 1000) (es : List Elt) (h : W.ownsRow N 139 2 (.slice (some ⟨g, 0, none⟩) n cap) n (es.flatMap Elt.enc)) (hes : ∀ e ∈ es, e.At W base) (hlen : ∀ e ∈ es, e.t.length = wd) (hn : es.length = n) (hn2 : n ≤ 1024) :
    Calls Tryz.prog 71 #[.slice (some ⟨g, 0, none⟩) n cap, .func (.func 72) #[] #[]] W fun e w' => e = .returned (.tuple #[]) ∧ ∃ fs : List Elt, fs.Perm es ∧ (fs.Pairwise fun a b => ¬ Lt (plainO wd) b.t a.t) ∧ w'.ownsRow N 139 2 (.slice (some ⟨g, 0, none⟩) n cap) n (fs.flatMap Elt.enc) ∧ W.grownBy w' (some g) := by
  cases es with
  | nil =>
    simp at hn
    subst hn
    refine (AnyF.slices_SortFunc_none { Tryz.sortRow with } (some ⟨g, 0, none⟩) cap _ W).mono ?_
    rintro e w' ⟨rfl, rfl⟩
    exact ⟨rfl, [], .refl _, List.Pairwise.nil, h, ⟨rfl, rfl, rfl, Nat.le_refl _, fun _ _ _ => rfl⟩⟩
  | cons e0 es =>
    have g0 : Good wd W := ⟨e0, hlen e0 (by simp), (hes e0 (by simp)).weaken (Nat.zero_le _)⟩
    letI : Inhabited (Good wd W) := ⟨g0⟩
    obtain ⟨gs, hgs⟩ : ∃ gs : List (Good wd W), gs.map (·.1) = e0 :: es := ⟨(e0 :: es).attach.map fun e => (⟨e.1, hlen e.1 e.2, (hes e.1 e.2).weaken (Nat.zero_le _)⟩ : Good wd W), by
      rw [List.map_map]
      show List.map (fun e : { x // x ∈ e0 :: es } => e.1) (e0 :: es).attach = _
      exact List.attach_map_subtype_val _⟩
    have hke : ∀ x : Good wd W, (Good.enc x).length = 2 := fun _ => rfl
    have hfl : ∀ gs : List (Good wd W), gs.flatMap Good.enc = (gs.map (·.1)).flatMap Elt.enc := fun gs => by rw [List.flatMap_map]; rfl
    have hgl : gs.length = n := by rw [← hn, ← hgs, List.length_map]
    obtain ⟨hglt, hH⟩ := holds2 h
    have hHK : HoldsK Good.enc 2 W g 0 gs.toArray := by
      unfold HoldsK
      rw [flatK_list _ hke, List.toList_toArray, hfl, hgs]
      exact hH
    obtain ⟨i0, hi, _, hz1, _⟩ := info_parts infoR
    have aE : ∀ w, (isAgg 139).run Tryz.prog w = .ok true w := fun w => by simp [isAgg, run_underlying Tryz.underlying139]
    have zE : ∀ w, (Go.sizeOf 139).run Tryz.prog w = .ok 2 w := fun w => by simp [Go.sizeOf, typeInfo, hi, hz1]
    have hcon := AnyQ.slices_SortFunc (α := Good wd W) Tryz.sortRow 2 aE zE Good.enc hke (fun x v hv => by
      simp [Good.enc, Elt.enc] at hv
      rcases hv with rfl | rfl <;> rfl) Good.cf (cmpL_swo wd W) 72 #[] g 0 cap gs.toArray W (enters_of Tryz.func72 (by kernel_rfl) rfl) (fun m os dk hdk x y => ?_) hHK hglt (by simp; omega)
    · rw [List.size_toArray, hgl] at hcon
      refine hcon.mono ?_
      rintro e w' ⟨rfl, d', q, os, hp, hs, rfl⟩
      obtain ⟨hsz, _, hpm⟩ := hp
      replace hsz : d'.size = n := by rw [← hgl]; simpa using hsz
      have hpm' : d'.toList.Perm gs := by
        have e1 : (d'.extract 0 n).toList = d'.toList := by rw [← hsz]; simp
        have e2 : (gs.toArray.extract 0 n).toList = gs := by rw [← hgl]; simp
        rw [e1, e2] at hpm
        exact hpm
      have hflat : flatK Good.enc 2 d' = ((d'.toList.map (·.1)).flatMap Elt.enc).toArray := by rw [flatK_list _ hke, hfl]
      have hown : (putRow id (Sort.ahead W q) g 0 ((d'.toList.map (·.1)).flatMap Elt.enc).toArray).ownsRow N 139 2 (.slice (some ⟨g, 0, none⟩) n cap) n ((d'.toList.map (·.1)).flatMap Elt.enc) := by
        refine put2 h ?_
        have := (hpm'.map (·.1)).flatMap_right Elt.enc
        rw [hgs] at this
        exact this.length_eq
      refine ⟨rfl, d'.toList.map (·.1), by rw [← hgs]; exact hpm'.map _, ?_, ?_, ?_⟩
      · rw [List.pairwise_map]
        rw [List.pairwise_iff_getElem]
        intro i j hi hj hij hlt
        have hj' : j < n := by simpa [hsz] using hj
        have := hs i j (Nat.zero_le _) hij hj'
        have hjd : j < d'.size := by omega
        have hid : i < d'.size := by omega
        rw [getElem!_pos d' j hjd, getElem!_pos d' i hid] at this
        have h2 : ¬ cmpL (plainO wd) (d'[j]'hjd).1.t (d'[i]'hid).1.t < 0 := of_decide_eq_false this
        simp only [List.getElem_map, Array.getElem_toList] at hlt
        exact h2 hlt
      · unfold sortWorldK putRowK
        rw [hflat]
        refine own_move hown fun k hk => heap_grow_old _ _ ?_
        have : g = k := by simpa [Value.ownBlock] using hk
        rw [put2_size]; omega
      · unfold sortWorldK putRowK
        refine ⟨rfl, rfl, rfl, by rw [Go.Sort.size_grow, put2_size]; omega, fun k hk hn => ?_⟩
        rw [heap_grow_old _ _ (by rw [put2_size]; exact hk)]
        exact put2_other _ _ _ _ _ fun e => hn (by rw [e])
    · unfold sortWorldK putRowK
      have hkeep : ∀ e : Elt, e.At W 0 → e.At (grow (putRow id (Sort.ahead W m) g 0 (flatK Good.enc 2 dk)) os) 0 := fun e he => own_move he fun k hk => by
        obtain ⟨cells, hc⟩ := own_typed he k hk
        rw [heap_grow_old _ _ (by rw [put2_size]; exact (Array.getElem?_eq_some_iff.1 hc).1)]
        refine put2_other _ _ _ _ _ fun e => ?_
        subst e
        obtain ⟨cells2, hc2⟩ := own_typed h k rfl
        rw [hc] at hc2
        injection hc2 with hc2
        injection hc2 with _ h3 _
        exact absurd h3 (by decide)
      obtain ⟨⟨A1, c1, t1, n1⟩, hl1, ha1⟩ := x
      obtain ⟨⟨A2, c2, t2, n2⟩, hl2, ha2⟩ := y
      have s1 : Sl _ A1 c1 t1 := own_sl (hkeep _ ha1)
      have s2 : Sl _ A2 c2 t2 := own_sl (hkeep _ ha2)
      have := cmp1_calls _ wd h8 A1 c1 t1 (nf n1.1) (nf n1.2) A2 c2 t2 (nf n2.1) (nf n2.2) s1 s2 hl1 hl2
      simp only [Good.enc, Elt.enc, Elt.v, noteV, Good.cf]
      rw [show t1.length = wd from hl1, show t2.length = wd from hl2]
      exact this
theorem sort_rows (W : World) (wd base N n c : Nat) (A : Option Addr) (h8 : wd ≤ 1000) (es : List Elt) (h : W.ownsRow N 139 2 (.slice A n c) n (es.flatMap Elt.enc)) (hes : ∀ e ∈ es, e.At W base) (hlen : ∀ e ∈ es, e.t.length = wd) (hn : es.length = n) (hn2 : n ≤ 1024) :
    Calls Tryz.prog 71 #[.slice A n c, .func (.func 72) #[] #[]] W fun e w' => e = .returned (.tuple #[]) ∧ ∃ fs : List Elt, fs.Perm es ∧ (fs.Pairwise fun a b => ¬ Lt (plainO wd) b.t a.t) ∧ w'.ownsRow N 139 2 (.slice A n c) n (fs.flatMap Elt.enc) ∧ W.grownBy w' (Value.slice A n c).ownBlock := by
  rcases h.2 with ⟨e, h0⟩ | ⟨g, cap, cur, e, _⟩
  · injection e with e1 e2 e3
    subst e1 e2 e3
    have : es = [] := List.length_eq_zero_iff.1 hn
    subst this
    refine (AnyF.slices_SortFunc_none { Tryz.sortRow with } none 0 _ W).mono ?_
    rintro e w' ⟨rfl, rfl⟩
    exact ⟨rfl, [], .refl _, List.Pairwise.nil, h, ⟨rfl, rfl, rfl, Nat.le_refl _, fun _ _ _ => rfl⟩⟩
  · injection e with e1 e2 e3
    subst e1 e3
    exact sort_some W wd base N g n c h8 es h hes hlen hn hn2
theorem tup_eq {wd : Nat} {a b : Tp} (ha : a.length = wd) (hb : b.length = wd) (h : cmpL (plainO wd) a b = 0) : a = b := by
  rw [cmpL_zero] at h
  refine List.ext_getElem (by omega) fun i h1 h2 => ?_
  have := h (i : Int) (List.mem_map.2 ⟨i, List.mem_range.2 (by omega), rfl⟩)
  simpa [Go.Proofs.YtcmllllbmgcnlaaGreatW.PrintWords.rd, h1, h2] using this
theorem rows_unique {o : Tp} : ∀ {L M : List Row}, Up o (keys L) → Up o (keys M) → (∀ x, x ∈ L ↔ x ∈ M) → L = M
  | [], [], _, _, _ => rfl
  | [], b :: M, _, _, h => absurd ((h b).2 (by simp)) (by simp)
  | a :: L, [], _, _, h => absurd ((h a).1 (by simp)) (by simp)
  | a :: L, b :: M, hL, hM, h => by
    unfold Up at hL hM
    simp only [keys, List.map_cons, List.pairwise_cons] at hL hM
    have hab : a = b := by
      rcases List.mem_cons.1 ((h a).1 (by simp)) with e | ha
      · exact e
      · rcases List.mem_cons.1 ((h b).2 (by simp)) with e | hb
        · exact e.symm
        · exact absurd (hM.1 a.1 (List.mem_map.2 ⟨a, ha, rfl⟩)) (fun hh => (hL.1 b.1 (List.mem_map.2 ⟨b, hb, rfl⟩)).asymm hh)
    subst hab
    congr 1
    refine rows_unique hL.2 hM.2 fun x => ?_
    constructor
    · intro hx
      rcases List.mem_cons.1 ((h x).1 (List.mem_cons_of_mem _ hx)) with e | hx'
      · subst e; exact absurd (hL.1 x.1 (List.mem_map.2 ⟨x, hx, rfl⟩)) (fun hh => hh.irrefl)
      · exact hx'
    · intro hx
      rcases List.mem_cons.1 ((h x).2 (List.mem_cons_of_mem _ hx)) with e | hx'
      · subst e; exact absurd (hM.1 x.1 (List.mem_map.2 ⟨x, hx, rfl⟩)) (fun hh => hh.irrefl)
      · exact hx'
def Elt.row (e : Elt) : Row := (e.t, e.n)
def notedL (R : List Row) (xs : List Tp) : List Row := R.filter fun x => decide (x.1 ∈ xs)
theorem noted_list {wd : Nat} {R : List Row} (hR : RowsOk wd R) {xs : List Tp} {es fs : List Elt} (hxn : xs.Nodup) (hes : es.map Elt.t = xs) (hl : ∀ e ∈ es, lookF R e.t = some e.n) (hp : fs.Perm es) (hs : fs.Pairwise fun a b => ¬ Lt (plainO wd) b.t a.t) : fs.map Elt.row = notedL R xs := by
  have hlf : ∀ e ∈ fs, lookF R e.t = some e.n := fun e he => hl e (hp.subset he)
  have hlen : ∀ e ∈ fs, e.t.length = wd := fun e he => hR.key (mem_keys (lookF_mem (hlf e he)))
  have hnd : (fs.map Elt.t).Nodup := by
    rw [(hp.map Elt.t).nodup_iff, hes]; exact hxn
  refine rows_unique (o := plainO wd) ?_ ?_ fun x => ?_
  · have : keys (fs.map Elt.row) = fs.map Elt.t := by simp [keys, Elt.row]
    rw [this]
    unfold Up
    rw [List.pairwise_map]
    rw [List.Nodup, List.pairwise_map] at hnd
    have hboth := hs.and hnd
    refine List.Pairwise.imp_of_mem ?_ hboth
    intro a b ha hb hab
    have h1 : ¬ cmpL (plainO wd) b.t a.t < 0 := hab.1
    have h2 := cmpL_flip (plainO wd) a.t b.t
    have h3 : cmpL (plainO wd) a.t b.t ≠ 0 := fun h => hab.2 (tup_eq (hlen a ha) (hlen b hb) h)
    show cmpL (plainO wd) a.t b.t < 0
    omega
  · unfold notedL keys Up
    exact (List.Pairwise.sublist ((List.filter_sublist).map Prod.fst) hR.up)
  · unfold notedL
    rw [List.mem_map, List.mem_filter]
    constructor
    · rintro ⟨e, he, rfl⟩
      refine ⟨lookF_mem (hlf e he), decide_eq_true ?_⟩
      rw [← hes]
      exact List.mem_map.2 ⟨e, hp.subset he, rfl⟩
    · rintro ⟨hx, hm⟩
      have hm' : x.1 ∈ xs := of_decide_eq_true hm
      rw [← hes] at hm'
      obtain ⟨e, he, ht⟩ := List.mem_map.1 hm'
      refine ⟨e, hp.symm.subset he, ?_⟩
      have h1 := hl e he
      rw [ht, lookF_at hR.nodup hx] at h1
      injection h1 with h1
      exact Prod.ext ht h1.symm
end Go.Proofs.YtcmllllbmgcnlaaGreat.Rl
end
section
namespace Go.Proofs.YtcmllllbmgcnlaaGreat.Rl
open Go.RowKit Go.Lib Go.Proofs.YtcmllllbmgcnlaaGreat.G Go.Proofs.YtcmllllbmgcnlaaGreat.Tup Go.Proofs.YtcmllllbmgcnlaaGreatW.PrintWords Go.Proofs.YtcmllllbmgcnlaaGreatW.PrintLast Go.Proofs.YtcmllllbmgcnlaaGreatW.PrintMore
set_option linter.unusedVariables false
set_option linter.unusedSimpArgs false
def RoundsT (F : Fence) (P : Program) (l : Nat) (J : List Tp → World → Prop) (fp : Nat → Prop) (xs : List Tp) : Prop :=
  ∀ m pre x A c W0 W1, J pre W0 → pre ++ [x] <+: xs → Handed1 W0 W1 A c x → YieldAt F m P l #[.slice A x.length c] W1 fun e W' => e = .returned (.bool true) ∧ J (pre ++ [x]) W' ∧ KpF fp W1 W'
def SeqT (F : Fence) (P : Program) (gf : Nat) (lb : Array Value) (fp : Nat → Prop) (xs : List Tp) (w : World) : Prop :=
  ∀ (l : Nat) (J : Nat → List Tp → World → Prop) (W : World), Below w.heap.size w W → (∀ N, W.heap.size ≤ N → OwnFrom W.heap.size (J N)) → (∀ N, W.heap.size ≤ N → RoundsT F P l (J N) (Priv fp W.heap.size N) xs) → (∀ W', Below W.heap.size W W' → J W'.heap.size [] W') →
    ∀ n, CallsIn F n P gf (#[.func (.yield l) #[] #[]] ++ lb) W fun e W' => (∃ v, e = .returned v) ∧ ∃ N, W.heap.size ≤ N ∧ J N xs W'
theorem own_abides {β : Type} {B : Nat} {J : β → World → Prop} (h : OwnFrom B J) : AbidesFrom B J := fun s A C row hs hg hr => h s A C row hs hg (fun r e => by obtain ⟨hB, o, ho, hw⟩ := hr r e; exact ⟨hB, o, ho, Obj.not_cells_of_walk hw⟩)
theorem yieldAt_mono {F : Fence} {m : Nat} {P : Program} {l : Nat} {args : Array Value} {W : World} {R R' : Ending → World → Prop} (h : YieldAt F m P l args W R) (hr : ∀ e w, R e w → R' e w) : YieldAt F m P l args W R' := h.mono hr
theorem seqR_T {F : Fence} {P : Program} {gf : Nat} {lb : Array Value} {fp : Nat → Prop} {xs : List Tp} {w : World} (h : SeqR F P gf lb fp xs w) : SeqT F P gf lb fp xs w :=
  fun l J W hW hJ hR h0 n => (h l J (fun _ _ _ => False) W hW (fun N hN => own_abides (hJ N hN)) (fun _ _ _ _ _ _ hs _ _ => hs) (fun N hN m pre x A c W0 W1 hj hp hh => yieldAt_mono (hR N hN m pre x A c W0 W1 hj hp hh) fun e w' hq => .inl hq) h0 n).mono
    fun e W' hq => ⟨hq.1, hq.2.elim fun N hN => ⟨N, hN.1, hN.2.elim id fun hx => hx.elim fun pre hp => hp.2.elim⟩⟩
def PostT (fp : Nat → Prop) (I : List Tp → World → Prop) (s : List Tp) (W1 : World) : Exit → Act → World → Prop := fun e a W3 => e = .normal ∧ KpF fp W1 W3 ∧ I s W3
theorem rounds_ofT {F : Fence} {n : Nat} (hd : F.depth = none) {P : Program} {B l : Nat} (hBl : B ≤ l) {fn : FuncId} {tm : Array Value} {ps : Array Tmp} {assign body : Code} {d : Nat} (hfn : F.fn fn) {fp : Nat → Prop} {xs : List Tp} (hps : ps.size = 1) (I : List Tp → World → Prop) (hI : OwnFrom B I) (Dl : List Nat) (hD : ∀ D ∈ Dl, B ≤ D ∧ D ≠ l) (hfl : fp l) (hfD : ∀ D ∈ Dl, fp D) (a₁ : Tp → Option Addr → Nat → Act)
    (hassign : ∀ x A c W (K : Act → World → Prop), K (a₁ x A c) W → assign.wpIn (F.inRound l) n P (Exit.then K (fun _ _ _ => False)) { tmps := (ps.zip #[Value.slice A x.length c]).foldl (fun t (p, v) => t.setIfInBounds p v) tm, defers := [] } W)
    (hbody : ∀ pre x A c W0 W1, (∃ r, W1.heap[l]? = some (.loop r)) → Marks Dl W1 → I pre W0 → pre ++ [x] <+: xs → Handed1 W0 W1 A c x → I pre W1 → body.wpIn (F.inRound l) n P (PostT fp I (pre ++ [x]) W1) (a₁ x A c) W1) :
    RoundsT F P l (fun pre W => I pre W ∧ W.heap[l]? = some (.loop (recOf fn tm ps assign body d .ready none)) ∧ Marks Dl W) (fun k => fp k ∧ k ≠ l) xs := by
  rintro m pre x A c W0 W1 ⟨hi, hl, hk⟩ hpre ⟨hb, ho⟩
  have hlt0 := (Array.getElem?_eq_some_iff.1 hl).1
  have hl1 : W1.heap[l]? = some (.loop (recOf fn tm ps assign body d .ready none)) := (hb.block l hlt0).trans hl
  have hlt1 := (Array.getElem?_eq_some_iff.1 hl1).1
  have hk1 : Marks Dl W1 := fun D hD' => (hb.block D (Array.getElem?_eq_some_iff.1 (hk D hD')).1).trans (hk D hD')
  have hi1 : I pre W1 := hI pre W0 W1 none hi ⟨hb.os, hb.tape, hb.output, hb.size, fun k hk _ => hb.block k hk⟩ (fun r e => by cases e)
  refine yieldAny hd m ⟨fn, _, assign, body, run_yield hl1 (by simp [recOf, hps]), roundIn_of_wpIn hfn (hassign x A c W1 _ ⟨_, run_beginRound hl1 rfl, ?_⟩)⟩
  obtain ⟨ob, hob⟩ : ∃ ob, ob = Obj.loop { recOf fn tm ps assign body d .ready none with state := .busy } := ⟨_, rfl⟩
  rw [← hob]
  have hbb : Below (W0.putObj l ob).heap.size (W0.putObj l ob) (W1.putObj l ob) := ⟨hb.os, hb.tape, hb.output, by simpa using hb.size, fun k hk => by
    by_cases e : k = l
    · subst e; rw [World.putObj_heap_same hlt1, World.putObj_heap_same hlt0]
    · rw [World.putObj_heap_other e, World.putObj_heap_other e]; exact hb.block k (by simpa using hk)⟩
  have hoo : (W1.putObj l ob).ownsRow (W0.putObj l ob).heap.size 3 1 (.slice A x.length c) x.length (x.map (Value.int .i64)) := by
    have := own_move ho (w1 := W1.putObj l ob) (fun k hk => World.putObj_heap_other (fun e => by have := own_ge ho k hk.symm; omega))
    simpa using this
  have hl2 : (W1.putObj l ob).heap[l]? = some ob := World.putObj_heap_same hlt1
  have hk2 : Marks Dl (W1.putObj l ob) := fun D hD' => (World.putObj_heap_other (hD D hD').2).trans (hk1 D hD')
  refine wpIn_mono (hbody pre x A c (W0.putObj l ob) (W1.putObj l ob) ⟨_, hl2.trans (by rw [hob])⟩ hk2 (hI.putObj _ hi hBl hl rfl) hpre ⟨hbb, hoo⟩ (hI.putObj _ hi1 hBl hl1 rfl)) ?_
  rintro e a3 W3 ⟨rfl, hkp3, hi3⟩
  have hsz1 : (W1.putObj l ob).heap.size = W1.heap.size := by simp
  have hl3 : W3.heap[l]? = some ob := (hkp3.same l hfl (by rw [hsz1]; exact hlt1)).trans hl2
  have hlt3 := (Array.getElem?_eq_some_iff.1 hl3).1
  refine ⟨_, _, run_endRound none (hl3.trans (by rw [hob])), rfl, ⟨hI.putObj _ hi3 hBl hl3 (by rw [hob]; rfl), World.putObj_heap_same hlt3, fun D hD' => (World.putObj_heap_other (hD D hD').2).trans ((hkp3.same D (hfD D hD') (Array.getElem?_eq_some_iff.1 (hk2 D hD')).1).trans (hk2 D hD'))⟩, ?_⟩
  exact ⟨by have := hkp3.size; simp at *; omega, fun k hk hlt => (World.putObj_heap_other hk.2).trans ((hkp3.same k hk.1 (by rw [hsz1]; exact hlt)).trans (World.putObj_heap_other hk.2))⟩
theorem range_outerT {F : Fence} {n : Nat} {P : Program} {g : Operand} {ps : Array Tmp} {assign body : Code} {Q : Exit → Act → World → Prop} {a : Act} {w : World} (hd : F.depth = none) (hro : F.round = none)
    {gf : Nat} {lb : Array Value} (hg : a.eval g = .func (.func gf) #[] lb) (hFg : F.fn gf) (eg : ∀ args w, (callFunc gf args).run P w = .ok (.enter gf args) w)
    {fp : Nat → Prop} (hfp : ∀ k, fp k → k < w.heap.size) {xs : List Tp} (hseq : SeqT F P gf lb fp xs w) (hps : ps.size = 1)
    (I : Nat → List Tp → World → Prop) (hI : ∀ N, w.heap.size + 2 ≤ N → OwnFrom w.heap.size (I N)) (h0 : ∀ W', Below w.heap.size w W' → w.heap.size + 2 ≤ W'.heap.size → I W'.heap.size [] W') (a₁ : Tp → Option Addr → Nat → Act)
    (hassign : ∀ l x A c W (K : Act → World → Prop), K (a₁ x A c) W → assign.wpIn (F.inRound l) n P (Exit.then K (fun _ _ _ => False)) { tmps := (ps.zip #[Value.slice A x.length c]).foldl (fun t (p, v) => t.setIfInBounds p v) a.tmps, defers := [] } W)
    (hbody : ∀ N l pre x A c W0 W1, w.heap.size + 2 ≤ N → l = w.heap.size + 1 → (∃ r, W1.heap[l]? = some (.loop r)) → W1.heap[w.heap.size]? = some (.deferred (some [])) → I N pre W0 → pre ++ [x] <+: xs → Handed1 W0 W1 A c x → I N pre W1 → body.wpIn (F.inRound l) n P (PostT (Priv fp w.heap.size N) (I N) (pre ++ [x]) W1) (a₁ x A c) W1)
    (hdone : ∀ (N D : Nat) (W : World), w.heap.size + 2 ≤ N → w.heap.size ≤ D → I N xs W → W.heap[D]? = some (.deferred (some [])) → Q .normal { a with defers := { target := .collected D, args := #[] } :: a.defers } W) :
    (Code.rangeFunc g ps assign body).wpIn F n P Q a w := by
  refine wpIn_rangeFunc ?_
  intro fn hfn
  rw [hro]
  obtain ⟨W1, hW1⟩ : ∃ W1, (w.alloc (.deferred (some []))).alloc (.loop (recOf fn a.tmps ps assign body w.heap.size .ready none)) = W1 := ⟨_, rfl⟩
  have hL1 : W1.heap[w.heap.size + 1]? = some (.loop (recOf fn a.tmps ps assign body w.heap.size .ready none)) := by
    rw [← hW1]; have := World.alloc_heap_new (w.alloc (.deferred (some []))) (.loop (recOf fn a.tmps ps assign body w.heap.size .ready none)); rwa [World.size_alloc] at this
  have hK1 : W1.heap[w.heap.size]? = some (.deferred (some [])) := by
    rw [← hW1]; exact (Below.heap_alloc _ _ _ (by simp)).trans (World.alloc_heap_new w _)
  have hb1 : Below w.heap.size w W1 := by rw [← hW1]; exact below_alloc (below_alloc (Below.refl _ _) _) _
  have hw1 : W1.heap.size = w.heap.size + 2 := by rw [← hW1]; simp
  refine ⟨w.heap.size + 1, [{ target := .collected w.heap.size, args := #[] }], W1, { target := .fn (.func gf) lb, args := #[.func (.yield (w.heap.size + 1)) #[] #[]] }, W1, gf,
    #[.func (.yield (w.heap.size + 1)) #[] #[]] ++ lb, W1, ?_, ?_, ?_, ?_, (fun h => by rw [hd] at h; cases h), ?_⟩
  · rw [← hW1]; exact run_enterLoop_outer _ _ _ _ _
  · simp only [resolve, hg]
    simp [go_sem]
  · intro f' hf'; simp [Target.leads] at hf'; subst hf'; exact hFg
  · simp [invoke, go_sem, eg]
  · have hR : ∀ N, W1.heap.size ≤ N → RoundsT F P (w.heap.size + 1) (fun pre W => I N pre W ∧ W.heap[w.heap.size + 1]? = some (.loop (recOf fn a.tmps ps assign body w.heap.size .ready none)) ∧ Marks [w.heap.size] W) (Priv fp W1.heap.size N) xs := fun N hN => by
      have hr := rounds_ofT (n := n) (P := P) (B := w.heap.size) (l := w.heap.size + 1) (d := w.heap.size) (tm := a.tmps) (ps := ps) (assign := assign) (body := body) hd (by omega) hfn (fp := Priv fp w.heap.size N) (xs := xs) hps (I N) (hI N (by omega)) [w.heap.size] (fun D hD => by simp at hD; subst hD; omega) (.inr ⟨by omega, by omega⟩) (fun D hD => by simp at hD; subst hD; exact .inr ⟨by omega, by omega⟩) a₁ (hassign _) (fun pre x A c W0 W1 hl hk => hbody N _ pre x A c W0 W1 (by omega) rfl hl (hk _ (by simp)))
      intro m pre x A c W0 W1' hj hp hh
      exact yieldAt_mono (hr m pre x A c W0 W1' hj hp hh) fun e w' hq => ⟨hq.1, hq.2.1, hq.2.2.mono fun k hk => hk.elim (fun h => ⟨.inl h, by have := hfp k h; omega⟩) (fun h => ⟨.inr ⟨by omega, h.2⟩, by omega⟩)⟩
    have keep : ∀ {A B : World} {row : Option Nat} (k : Nat) (o : Obj), A.grownBy B row → (∀ r, row = some r → W1.heap.size ≤ r ∧ ∃ o : Obj, A.heap[r]? = some o ∧ o.isCells = false) → A.heap[k]? = some o → k < W1.heap.size → B.heap[k]? = some o := fun k o hg hr hk hlt =>
      (hg.block k (Array.getElem?_eq_some_iff.1 hk).1 (fun e => by have := (hr k e.symm).1; omega)).trans hk
    refine (hseq (w.heap.size + 1) (fun N pre W => I N pre W ∧ W.heap[w.heap.size + 1]? = some (.loop (recOf fn a.tmps ps assign body w.heap.size .ready none)) ∧ Marks [w.heap.size] W) W1 hb1
      (fun N hN s A B row hs hg' hr => ⟨hI N (by omega) s A B row hs.1 hg' (fun r e => ⟨by have := (hr r e).1; omega, (hr r e).2⟩), keep _ _ hg' hr hs.2.1 (by omega), fun D hD => keep _ _ hg' hr (hs.2.2 D hD) (by simp at hD; omega)⟩) hR
      (fun W' hW' => ⟨h0 W' (below_then hb1 hb1.size hW') (by have := hW'.size; omega), blk hW' hL1, fun D hD => by simp at hD; subst hD; exact blk hW' hK1⟩) (n - 1)).mono ?_
    rintro e W2 ⟨⟨v, rfl⟩, N, hN, hi, hl, hk⟩
    exact ⟨none, _, run_endLoop hl (by simp [recOf]), hdone N _ _ (by omega) (Nat.le_refl _) ((hI N (by omega)).putObj _ hi (by omega) hl rfl) ((World.putObj_heap_other (by omega)).trans (hk _ (by simp)))⟩
theorem range_outerO {F : Fence} {n : Nat} {P : Program} {g : Operand} {ps : Array Tmp} {assign body : Code} {Q : Exit → Act → World → Prop} {a : Act} {w : World} (hd : F.depth = none) (hro : F.round = none)
    {gf : Nat} {lb : Array Value} (hg : a.eval g = .func (.func gf) #[] lb) (hFg : F.fn gf) (eg : ∀ args w, (callFunc gf args).run P w = .ok (.enter gf args) w)
    {fp : Nat → Prop} (hfp : ∀ k, fp k → k < w.heap.size) {xs : List Tp} (hseq : SeqT F P gf lb fp xs w) (hps : ps.size = 1)
    (I : Nat → List Tp → World → Prop) (hI : ∀ N, w.heap.size + 2 ≤ N → OwnFrom w.heap.size (I N)) (h0 : ∀ W', Below w.heap.size w W' → w.heap.size + 2 ≤ W'.heap.size → I W'.heap.size [] W') (a₁ : Tp → Option Addr → Nat → Act)
    (hassign : ∀ l x A c W (K : Act → World → Prop), K (a₁ x A c) W → assign.wpIn (F.inRound l) n P (Exit.then K (fun _ _ _ => False)) { tmps := (ps.zip #[Value.slice A x.length c]).foldl (fun t (p, v) => t.setIfInBounds p v) a.tmps, defers := [] } W)
    (hbody : ∀ N l pre x A c W0 W1, w.heap.size + 2 ≤ N → w.heap.size ≤ l → (∃ r, W1.heap[l]? = some (.loop r)) → I N pre W0 → pre ++ [x] <+: xs → Handed1 W0 W1 A c x → I N pre W1 → body.wpIn (F.inRound l) n P (ownPostG w.heap.size (KpF (Priv fp (w.heap.size + 2) N)) (I N) (fun _ _ _ => False) (pre ++ [x]) W1) (a₁ x A c) W1)
    (hdone : ∀ (N D : Nat) (W : World), w.heap.size + 2 ≤ N → w.heap.size ≤ D → I N xs W → W.heap[D]? = some (.deferred (some [])) → Q .normal { a with defers := { target := .collected D, args := #[] } :: a.defers } W) :
    (Code.rangeFunc g ps assign body).wpIn F n P Q a w := by
  refine range_outerT hd hro hg hFg eg hfp hseq hps I hI h0 a₁ hassign (fun N l pre x A c W0 W1 hN hl hr hD hi hp hh hi1 => wpIn_mono (hbody N l pre x A c W0 W1 hN (by omega) hr hi hp hh hi1) ?_) hdone
  intro e a3 W3 hq
  obtain ⟨r, hr⟩ := hr
  cases e with
  | normal =>
    obtain ⟨h1, h2, h3⟩ := hq
    refine ⟨rfl, ⟨h2.size, fun k hk hlt => ?_⟩, h3⟩
    by_cases e1 : k = w.heap.size
    · subst e1; exact (h1.same _ _ (Nat.le_refl _) hD rfl).trans hD.symm
    · by_cases e2 : k = w.heap.size + 1
      · subst e2; rw [← hl]; exact (h1.same l _ (by omega) hr rfl).trans hr.symm
      · exact h2.same k (hk.elim .inl fun h => .inr ⟨by omega, h.2⟩) hlt
  | ret => exact hq.2.elim
  | exit id => exact hq.2.elim
  | goto t => exact hq.2.elim
  | panic ch => exact hq.elim
  | outgrown => exact hq.elim
end Go.Proofs.YtcmllllbmgcnlaaGreat.Rl
end
