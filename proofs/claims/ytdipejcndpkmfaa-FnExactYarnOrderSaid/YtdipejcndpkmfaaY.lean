/- The order of the yarn. -/
import Derived.Test.YtdipejcndpkmfaaAp
namespace Go.Proofs.Ytdipejcndpkmfaa
open Go.RowKit

def idI (n : Nat) : List Int := (List.range n).map fun (i : Nat) => (i : Int)
theorem idI_length (n : Nat) : (idI n).length = n := by simp [idI]
theorem idI_at {n k : Nat} (h : k < n) : (idI n)[k]? = some (k : Int) := by simp [idI, List.getElem?_range h]
theorem idI_snoc (n : Nat) : idI (n + 1) = idI n ++ [(n : Int)] := by simp [idI, List.range_succ]
def orderP (d : Int) (n : Nat) : List Int := if d = 1 then idI n else (idI n).reverse
theorem orderP_length (d : Int) (n : Nat) : (orderP d n).length = n := by unfold orderP; split <;> simp [idI_length]
theorem orderP_at1 {n k : Nat} (h : k < n) : (orderP 1 n)[k]? = some (k : Int) := idI_at h
theorem orderP_at2 {d : Int} {n k : Nat} (hd : d ≠ 1) (h : k < n) : (orderP d n)[k]? = some ((n : Int) - 1 - k) := by
  unfold orderP
  rw [if_neg hd, List.getElem?_reverse (by rw [idI_length]; exact h), idI_length, idI_at (by omega)]
  congr 1
  omega
def yarnP (d r : Int) (xs : List Int) : List Int := if rowB d r xs then orderP d xs.length else []
theorem yarnP_length (d r : Int) (xs : List Int) : (yarnP d r xs).length ≤ 16 := by
  unfold yarnP
  split
  · rename_i h
    rw [orderP_length]
    unfold rowB stitchesB at h
    simp at h
    omega
  · simp

set_option maxHeartbeats 1000000 in
theorem impl_identity (n : Nat) (w : World) (hl : n ≤ 1000000) :
    Calls Try.prog 117 #[.int .i64 n] w fun e w' => ∃ A' c', e = .returned (.slice A' n c') ∧ OwnC w' w.heap.size w'.heap.size 2 1 A' n c' ((idI n).map (Value.int .i64)) ∧ Below w.heap.size w w' := by
  obtain ⟨i0, hi0, hz0, hz1, hz2⟩ := info_parts info_int64
  go_enter Try.func117, Try.ntmps117
  go_wp2_with (refine wpList_make_full _ rfl (.tmp 5) (.tmp 5) _ rfl w.heap.size 2 i0 _ 1 Try.underlying22 hi0 hz0 hz1 .i64 .i64 _ _ n rfl rfl rfl rfl (by rw [hz2]; omega) (by unfold maxLen; omega) (Nat.le_refl _) ?_; intro w1 hown hg)
  have hb1 : Below w.heap.size w w1 := (Below.refl _ _).grown hg (Nat.le_refl _) (by simp)
  go_loopw [9] (fun i wr => ∃ (k : Nat) (cs : List Value), k ≤ n ∧ i = .int .i64 k ∧ OwnC wr w.heap.size wr.heap.size 2 1 (some ⟨w.heap.size, 0, none⟩) n n cs ∧ cs.take k = (idI k).map (Value.int .i64) ∧ Below w.heap.size w wr) (fun i _ => n - (intOf i).toNat)
  case atStart => exact ⟨0, _, Nat.zero_le _, rfl, OwnC.of_own hown (Nat.le_refl _), by simp [idI], hb1⟩
  case round =>
    clear hown hg hb1
    obtain ⟨k, cs, hk, rfl, ho, htk, hb⟩ := hrel
    have hcl : cs.length = n * 1 := ho.len
    have HT := Lib.hid htk; clear htk
    have HC := Lib.hid hcl; clear hcl
    by_cases hlt : k < n
    · obtain ⟨_, hA0, _, _, q0, f0⟩ := ho.cell (j := k) (by rw [HC.out]; omega)
      injection hA0 with hA0
      injection hA0 with hA0
      subst hA0
      go_wp2_with (fail)
      go_roundw
      case rel =>
        refine ⟨k + 1, cs.set k (.int .i64 k), by omega, by go_num, ((ho.store _).1).mono (Nat.le_refl _) (by simp), ?_, by (repeat (first | exact Below.refl _ _ | assumption | apply Below.drew | apply below_drewN | (refine Below.alloc ?_ (by first | omega | (simp; done) | (simp; omega)) _) | (refine Below.setCell ?_ (by first | omega | (simp; done) | (simp; omega)) _)))⟩
        rw [take_set_succ _ _ _ (by rw [HC.out]; omega), HT.out, idI_snoc]
        simp
      case measure => simp [intOf]; omega
    · go_wp2_with (fail)
      go_ret
      have : k = n := by omega
      subst this
      have e : cs = (idI k).map (Value.int .i64) := by
        have := HT.out
        rwa [take_all (by rw [HC.out]; omega)] at this
      subst e
      exact ⟨_, _, rfl, ho, hb⟩

theorem swap_at {xs ds : List Int} {i : Nat} (hl : ds.length = xs.length) (h : ∀ k, k < xs.length → ds[k]? = if k < i ∨ xs.length - i ≤ k then xs.reverse[k]? else xs[k]?) (hi : 2 * i + 1 < xs.length) {x y : Int}
    (hx : ds[i]? = some x) (hy : ds[xs.length - 1 - i]? = some y) :
    ∀ k, k < xs.length → ((ds.set i y).set (xs.length - 1 - i) x)[k]? = if k < i + 1 ∨ xs.length - (i + 1) ≤ k then xs.reverse[k]? else xs[k]? := by
  intro k hk
  have ex := h i (by omega)
  rw [if_neg (by omega), hx] at ex
  have ey := h (xs.length - 1 - i) (by omega)
  rw [if_neg (by omega), hy] at ey
  by_cases h1 : k = xs.length - 1 - i
  · subst h1
    rw [List.getElem?_set_self (by simp; omega), if_pos (by omega), List.getElem?_reverse (by omega), ex]
    congr 1
    omega
  · by_cases h2 : k = i
    · subst h2
      rw [List.getElem?_set_ne (by omega), List.getElem?_set_self (by omega), if_pos (by omega), List.getElem?_reverse (by omega), ey]
    · rw [List.getElem?_set_ne (by omega), List.getElem?_set_ne (by omega), h k hk]
      by_cases h3 : k < i ∨ xs.length - i ≤ k
      · rw [if_pos h3, if_pos (by omega)]
      · rw [if_neg h3, if_neg (by omega)]
theorem swap_end {xs ds : List Int} {i : Nat} (hl : ds.length = xs.length) (h : ∀ k, k < xs.length → ds[k]? = if k < i ∨ xs.length - i ≤ k then xs.reverse[k]? else xs[k]?) (hi : xs.length ≤ 2 * i + 1) : ds = xs.reverse := by
  apply List.ext_getElem?
  intro k
  by_cases hk : k < xs.length
  · rw [h k hk]
    split
    · rfl
    · rw [List.getElem?_reverse hk]
      congr 1
      omega
  · rw [List.getElem?_eq_none (by omega), List.getElem?_eq_none (by simp; omega)]

set_option maxHeartbeats 1000000 in
theorem slices_Reverse (A : Option Addr) (c : Nat) (xs : List Int) (lo hi : Nat) (w : World) (h : OwnI w lo hi A c xs) (hl : xs.length ≤ 1000000) :
    Calls Try.prog 118 #[.slice A xs.length c] w fun e w' => e = .returned (.tuple #[]) ∧ OwnC w' lo hi 2 1 A xs.length c (xs.reverse.map (Value.int .i64)) ∧ Upd lo hi w w' := by
  go_enter Try.func118, Try.ntmps118
  go_wp2_with (fail)
  go_loopw [2, 3] (fun iv jv wr => ∃ (i : Nat) (ds : List Int), 2 * i ≤ xs.length + 1 ∧ iv = .int .i64 i ∧ jv = .int .i64 ((xs.length : Int) - 1 - i) ∧ OwnC wr lo hi 2 1 A xs.length c (ds.map (Value.int .i64)) ∧ ds.length = xs.length ∧ (∀ k, k < xs.length → ds[k]? = if k < i ∨ xs.length - i ≤ k then xs.reverse[k]? else xs[k]?) ∧ Upd lo hi w wr) (fun iv _ _ => xs.length - (intOf iv).toNat)
  case atStart => exact ⟨0, xs, by omega, rfl, by simp, h, rfl, fun k hk => by rw [if_neg (by omega)], Upd.refl _ _ _⟩
  case round =>
    clear h
    obtain ⟨i, ds, hi2, rfl, rfl, ho, hdl, hds, hu⟩ := hrel
    have HD := Lib.hid hdl; clear hdl
    have HS := Lib.hid hds; clear hds
    by_cases hlt : (i : Int) < (xs.length : Int) - 1 - i
    · obtain ⟨j, hj⟩ : ∃ j : Nat, j = xs.length - 1 - i := ⟨_, rfl⟩
      have hjn : (xs.length : Int) - 1 - i = (j : Int) := by omega
      have hxi : ds[i]? = some (ds[i]'(by rw [HD.out]; omega)) := List.getElem?_eq_getElem _
      have hyj : ds[j]? = some (ds[j]'(by rw [HD.out]; omega)) := List.getElem?_eq_getElem _
      generalize (ds[i]'(by rw [HD.out]; omega)) = x at hxi
      generalize (ds[j]'(by rw [HD.out]; omega)) = y at hyj
      obtain ⟨g, rfl, hg1, hg2, q0, f0⟩ := ho.cell (j := i) (by simp [HD.out]; omega)
      obtain ⟨_, hA, _, _, q1, f1⟩ := ho.cell (j := j) (by simp [HD.out]; omega)
      injection hA with hA
      injection hA with hA
      subst hA
      have e0 : (ds.map (Value.int .i64))[i]? = some (.int .i64 x) := by simp [hxi]
      have e1 : (ds.map (Value.int .i64))[j]? = some (.int .i64 y) := by simp [hyj]
      rw [List.getElem?_eq_getElem (by simp [HD.out]; omega)] at e0 e1
      injection e0 with e0
      injection e1 with e1
      rw [e0] at q0
      rw [e1] at q1
      clear e0 e1
      have HX := Lib.hid hxi; clear hxi
      have HY := Lib.hid hyj; clear hyj
      have HJ := Lib.hid hj; clear hj
      rw [hjn]
      have HJN := Lib.hid hjn; clear hjn
      have hij : i < j := by have := HJ.out; omega
      have hjl : j < xs.length := by have := HJ.out; omega
      go_wp2_with (fail)
      go_region
      go_wp2_with (fail)
      refine ⟨⟨i + 1, (ds.set i y).set j x, by omega, by go_num, int_eq (by have := HJN.out; omega), ?_, by simp [HD.out], ?_, ?_⟩, by simp [intOf]; omega⟩
      · have h2 := ((ho.store (j := i) (.int .i64 y)).1.store (j := j) (.int .i64 x)).1
        rw [List.map_set, List.map_set]
        exact h2.drewN 1
      · have hJ := HJ.out
        have hY := HY.out
        rw [hJ] at hY ⊢
        exact swap_at HD.out HS.out (by omega) HX.out hY
      · exact Upd.drewN ((hu.setCell hg1 hg2 _).setCell hg1 hg2 _) 1
    · go_wp2_with (fail)
      go_end0
      have e := swap_end HD.out HS.out (by omega)
      subst e
      exact ⟨rfl, by rw [← List.map_reverse]; exact ho, hu⟩

set_option maxHeartbeats 1000000 in
theorem impl_order (d r : Int) (A : Option Addr) (c : Nat) (xs : List Int) (w : World) (hl : xs.length ≤ 1000000) (hd : dirB d = true) :
    Calls Try.prog 94 #[.agg #[.int .i64 d, .int .i64 r, .slice A xs.length c]] w fun e w' => ∃ A' c', e = .returned (.slice A' xs.length c') ∧ OwnC w' w.heap.size w'.heap.size 2 1 A' xs.length c' ((orderP d xs.length).map (Value.int .i64)) ∧ Below w.heap.size w w' := by
  by_cases h1 : d = 1
  · subst h1
    go_enter Try.func94, Try.ntmps94
    go_wp2_with (fail)
    refine (impl_identity xs.length _ hl).mono ?_; rintro e w1 ⟨A1, c1, rfl, o1, b1⟩
    simp only [World.size_alloc] at o1 b1
    obtain ⟨hc, hf⟩ := bcell b1
    have B1 : Below w.heap.size w w1 := Below.trans (by (repeat (first | exact Below.refl _ _ | assumption | apply Below.drew | apply below_drewN | (refine Below.alloc ?_ (by first | omega | (simp; done) | (simp; omega)) _) | (refine Below.setCell ?_ (by first | omega | (simp; done) | (simp; omega)) _)))) (b1.mono (by first | omega | (simp; done) | (simp; omega)))
    go_wp2_with (fail)
    go_ret
    exact ⟨_, _, rfl, o1.mono (by omega) (Nat.le_refl _), B1⟩
  · have h2 : d = -1 := by simp [dirB] at hd; omega
    subst h2
    have hn : (idI xs.length).length = xs.length := idI_length _
    go_enter Try.func94, Try.ntmps94
    go_wp2_with (fail)
    refine (impl_identity xs.length _ hl).mono ?_; rintro e w1 ⟨A1, c1, rfl, o1, b1⟩
    simp only [World.size_alloc] at o1 b1
    obtain ⟨hc, hf⟩ := bcell b1
    have B1 : Below w.heap.size w w1 := Below.trans (by (repeat (first | exact Below.refl _ _ | assumption | apply Below.drew | apply below_drewN | (refine Below.alloc ?_ (by first | omega | (simp; done) | (simp; omega)) _) | (refine Below.setCell ?_ (by first | omega | (simp; done) | (simp; omega)) _)))) (b1.mono (by first | omega | (simp; done) | (simp; omega)))
    have z1 := b1.size
    simp only [World.size_alloc] at z1
    have hrev := slices_Reverse A1 c1 (idI xs.length) (w.heap.size + 1) w1.heap.size w1 (by show OwnC _ _ _ _ _ _ _ _ _; rw [hn]; exact o1) (by rw [hn]; exact hl)
    rw [hn] at hrev
    have HR := Lib.hid hrev; clear hrev hn
    go_wp2_with (fail)
    refine HR.out.mono ?_; rintro e w2 ⟨rfl, o2, u2⟩
    have B2 : Below w.heap.size w w2 := B1.trans ((u2.below (by omega)).mono (by omega))
    have z2 := u2.size
    go_wp2_with (fail)
    go_ret
    exact ⟨_, _, rfl, o2.mono (by omega) (by omega), B2⟩

set_option maxHeartbeats 1000000 in
theorem spec_l17Order (g o : Nat) (d _r : Int) (A : Option Addr) (c : Nat) (xs : List Int) (w : World) (hl : xs.length ≤ 1000000)
    (c0 : w.cell? ⟨g, o, none⟩ = some (.int .i64 d)) (c2 : w.cell? ⟨g, o + 2, none⟩ = some (.slice A xs.length c)) :
    Calls Try.prog 93 #[.pointer (some ⟨g, o, none⟩)] w fun e w' => ∃ A' c', e = .returned (.slice A' xs.length c') ∧ OwnC w' w.heap.size w'.heap.size 2 1 A' xs.length c' ((orderP d xs.length).map (Value.int .i64)) ∧ Below w.heap.size w w' := by
  obtain ⟨i0, hi0, hz0, hz1, hz2⟩ := info_parts info_int64
  have hgl : g < w.heap.size := cell_lt c2
  go_enter Try.func93, Try.ntmps93
  go_wp2_with (fail)
  go_loopw [3, 5] (fun ov i wr => ∃ (k : Nat) (A' : Option Addr) (c' : Nat), k ≤ xs.length ∧ i = .int .i64 k ∧ ov = .slice A' k c' ∧ OwnC wr w.heap.size wr.heap.size 2 1 A' k c' (((orderP d xs.length).take k).map (Value.int .i64)) ∧ Below w.heap.size w wr) (fun _ i _ => xs.length - (intOf i).toNat)
  case atStart => exact ⟨0, some ⟨w.heap.size, 0, none⟩, 0, Nat.zero_le _, rfl, rfl, (OwnC.lit _ 1 #[] (Nat.le_refl _) (Nat.zero_le _) rfl).mono (Nat.le_refl _) (by simp), by (repeat (first | exact Below.refl _ _ | assumption | apply Below.drew | apply below_drewN | (refine Below.alloc ?_ (by first | omega | (simp; done) | (simp; omega)) _) | (refine Below.setCell ?_ (by first | omega | (simp; done) | (simp; omega)) _)))⟩
  case round =>
    obtain ⟨k, A', c', hk, rfl, rfl, ho, hb⟩ := hrel
    have hzs := hb.size
    have q0 := cells_below hb _ _ c0
    by_cases hlt : k < xs.length
    · by_cases h1 : d = 1
      · subst h1
        have HS := Lib.hid (take_snoc (orderP_at1 hlt))
        go_wp2_with (at_builtin; refine wpList_append1 wr [.int .i64 k] _ rfl (.tmp 22) (.tmp 24) _ rfl 2 i0 _ 1 8 Try.underlying22 hi0 hz0 hz1 hz2 rfl (by decide) rfl ho hzs 1 rfl rfl (by simp [Value.oneCell']) (by omega) (by decide) ?_; intro A2 c2 w2 ho2 hg2 hb2 hz2')
        go_roundw
        case rel => exact ⟨k + 1, A2, c2, by omega, by go_num, rfl, by rw [HS.out]; simpa using ho2, hb.trans hb2⟩
        case measure => simp [intOf]; omega
      · have h1' : (d == 1) = false := by simpa using h1
        have HS := Lib.hid (take_snoc (orderP_at2 h1 hlt))
        go_wp2_with (at_builtin; refine wpList_append1 wr [.int .i64 ((xs.length : Int) - 1 - k)] _ rfl (.tmp 26) (.tmp 31) _ rfl 2 i0 _ 1 8 Try.underlying22 hi0 hz0 hz1 hz2 rfl (by decide) rfl ho hzs 1 rfl rfl (by simp [Value.oneCell']) (by omega) (by decide) ?_; intro A2 c2 w2 ho2 hg2 hb2 hz2')
        go_roundw
        case rel => exact ⟨k + 1, A2, c2, by omega, by go_num, rfl, by rw [HS.out]; simpa using ho2, hb.trans hb2⟩
        case measure => simp [intOf]; omega
    · go_wp2_with (fail)
      go_ret
      have : k = xs.length := by omega
      subst this
      rw [take_all (by rw [orderP_length]; exact Nat.le_refl _)] at ho
      exact ⟨_, _, rfl, ho, hb⟩

theorem impl_YarnOrder (d r : Int) (A : Option Addr) (c : Nat) (xs : List Int) (w : World) (h : Ints w A xs) (hl : xs.length ≤ 1000000000) :
    Calls Try.prog 46 #[.agg #[.int .i64 d, .int .i64 r, .slice A xs.length c]] w fun e w' => ∃ A' c', e = .returned (.slice A' (yarnP d r xs).length c') ∧ OwnI w' w.heap.size w'.heap.size A' c' (yarnP d r xs) ∧ Below w.heap.size w w' := by
  by_cases hv : rowB d r xs = true
  · have HF : Hid (yarnP d r xs = orderP d xs.length) := Lib.hid (by rw [yarnP, if_pos hv])
    have hd : dirB d = true := by simp [rowB] at hv; exact hv.1.1
    have hn : xs.length ≤ 16 := by simp [rowB, stitchesB] at hv; omega
    have HD := Lib.hid hd; clear hd
    go_enter Try.func46, Try.ntmps46
    go_wp2_with (fail)
    refine (impl_ValidRow _ _ _ _ _ _ (h.below (by (repeat (first | exact Below.refl _ _ | assumption | apply Below.drew | apply below_drewN | (refine Below.alloc ?_ (by first | omega | (simp; done) | (simp; omega)) _) | (refine Below.setCell ?_ (by first | omega | (simp; done) | (simp; omega)) _))))) (by omega)).mono ?_; rintro e w1 ⟨rfl, b1⟩
    simp only [World.size_alloc] at b1
    obtain ⟨hc, hf⟩ := bcell b1
    have B1 : Below w.heap.size w w1 := Below.trans (by (repeat (first | exact Below.refl _ _ | assumption | apply Below.drew | apply below_drewN | (refine Below.alloc ?_ (by first | omega | (simp; done) | (simp; omega)) _) | (refine Below.setCell ?_ (by first | omega | (simp; done) | (simp; omega)) _)))) (b1.mono (by first | omega | (simp; done) | (simp; omega)))
    have z1 := B1.size
    go_wp2_with (fail)
    refine (impl_order _ _ _ _ xs _ (by omega) HD.out).mono ?_; rintro e w2 ⟨A2, c2, rfl, o2, b2⟩
    go_wp2_with (fail)
    go_ret
    rw [HF.out]
    have e : (orderP d xs.length).length = xs.length := orderP_length _ _
    refine ⟨A2, c2, by rw [e]; rfl, ?_, B1.trans (b2.mono z1)⟩
    show OwnC _ _ _ _ _ _ _ _ _
    rw [e]
    exact o2.mono z1 (Nat.le_refl _)
  · have hv' : rowB d r xs = false := by simpa using hv
    have HF : Hid (yarnP d r xs = []) := Lib.hid (by rw [yarnP, if_neg hv])
    clear hv
    go_enter Try.func46, Try.ntmps46
    go_wp2_with (fail)
    refine (impl_ValidRow _ _ _ _ _ _ (h.below (by (repeat (first | exact Below.refl _ _ | assumption | apply Below.drew | apply below_drewN | (refine Below.alloc ?_ (by first | omega | (simp; done) | (simp; omega)) _) | (refine Below.setCell ?_ (by first | omega | (simp; done) | (simp; omega)) _))))) (by omega)).mono ?_; rintro e w1 ⟨rfl, b1⟩
    simp only [World.size_alloc] at b1
    have B1 : Below w.heap.size w w1 := Below.trans (by (repeat (first | exact Below.refl _ _ | assumption | apply Below.drew | apply below_drewN | (refine Below.alloc ?_ (by first | omega | (simp; done) | (simp; omega)) _) | (refine Below.setCell ?_ (by first | omega | (simp; done) | (simp; omega)) _)))) (b1.mono (by first | omega | (simp; done) | (simp; omega)))
    go_wp2_with (fail)
    go_ret
    rw [HF.out]
    exact ⟨none, 0, rfl, OwnC.nil _ _ _ _ _, B1⟩

theorem spec_YarnOrder (d r : Int) (A : Option Addr) (c : Nat) (xs : List Int) (w : World) (h : Ints w A xs) (hl : xs.length ≤ 1000000000) :
    Calls Try.prog 45 #[.agg #[.int .i64 d, .int .i64 r, .slice A xs.length c]] w fun e w' => ∃ A' c', e = .returned (.slice A' (yarnP d r xs).length c') ∧ OwnI w' w.heap.size w'.heap.size A' c' (yarnP d r xs) ∧ Below w.heap.size w w' := by
  by_cases hv : rowB d r xs = true
  · have HF : Hid (yarnP d r xs = orderP d xs.length) := Lib.hid (by rw [yarnP, if_pos hv])
    have hn : xs.length ≤ 16 := by simp [rowB, stitchesB] at hv; omega
    go_enter Try.func45, Try.ntmps45
    go_wp2_with (fail)
    refine (spec_l15Row _ _ d r A c xs _ (h.below (by (repeat (first | exact Below.refl _ _ | assumption | apply Below.drew | apply below_drewN | (refine Below.alloc ?_ (by first | omega | (simp; done) | (simp; omega)) _) | (refine Below.setCell ?_ (by first | omega | (simp; done) | (simp; omega)) _))))) (by omega) (by simp) (by simp) (by simp)).mono ?_; rintro e _ ⟨rfl, rfl⟩
    go_wp2_with (fail)
    refine (spec_l17Order _ _ d r A c xs _ (by omega) (by simp) (by simp)).mono ?_; rintro e w2 ⟨A2, c2, rfl, o2, b2⟩
    simp only [World.size_alloc] at o2 b2
    have B2 : Below w.heap.size w w2 := Below.trans (by (repeat (first | exact Below.refl _ _ | assumption | apply Below.drew | apply below_drewN | (refine Below.alloc ?_ (by first | omega | (simp; done) | (simp; omega)) _) | (refine Below.setCell ?_ (by first | omega | (simp; done) | (simp; omega)) _)))) (b2.mono (by first | omega | (simp; done) | (simp; omega)))
    go_wp2_with (fail)
    go_ret
    rw [HF.out]
    have e : (orderP d xs.length).length = xs.length := orderP_length _ _
    refine ⟨A2, c2, by rw [e]; rfl, ?_, B2⟩
    show OwnC _ _ _ _ _ _ _ _ _
    rw [e]
    exact o2.mono (by omega) (Nat.le_refl _)
  · have hv' : rowB d r xs = false := by simpa using hv
    have HF : Hid (yarnP d r xs = []) := Lib.hid (by rw [yarnP, if_neg hv])
    clear hv
    go_enter Try.func45, Try.ntmps45
    go_wp2_with (fail)
    refine (spec_l15Row _ _ d r A c xs _ (h.below (by (repeat (first | exact Below.refl _ _ | assumption | apply Below.drew | apply below_drewN | (refine Below.alloc ?_ (by first | omega | (simp; done) | (simp; omega)) _) | (refine Below.setCell ?_ (by first | omega | (simp; done) | (simp; omega)) _))))) (by omega) (by simp) (by simp) (by simp)).mono ?_; rintro e _ ⟨rfl, rfl⟩
    go_wp2_with (fail)
    go_ret
    rw [HF.out]
    exact ⟨none, 0, rfl, OwnC.nil _ _ _ _ _, by (repeat (first | exact Below.refl _ _ | assumption | apply Below.drew | apply below_drewN | (refine Below.alloc ?_ (by first | omega | (simp; done) | (simp; omega)) _) | (refine Below.setCell ?_ (by first | omega | (simp; done) | (simp; omega)) _)))⟩

end Go.Proofs.Ytdipejcndpkmfaa
