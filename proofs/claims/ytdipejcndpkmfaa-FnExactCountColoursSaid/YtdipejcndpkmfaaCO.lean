/- CountColours. -/
import Derived.Test.YtdipejcndpkmfaaSM
namespace Go.Proofs.Ytdipejcndpkmfaa
open Go.RowKit

theorem zeros4 : (madeCells (Value.int .i64 0).cells (4 * 1)).toList = ([0, 0, 0, 0] : List Int).map (Value.int .i64) := by simp [madeCells, Value.cells]; rfl
def bump (cs : List Int) (x : Int) : List Int := cs.set (x - 1).toNat (wrap64 (cs[(x - 1).toNat]?.getD 0 + 1))
def bumpRow (cs row : List Int) : List Int := row.foldl bump cs
def countRows (xss : List (List Int)) : List Int := xss.foldl bumpRow [0, 0, 0, 0]
def countColours (n : Int) (xss : List (List Int)) : List Int := if coloursB n xss then countRows xss else []
theorem bumpRow_length (cs row : List Int) : (bumpRow cs row).length = cs.length := by
  unfold bumpRow
  induction row generalizing cs with
  | nil => rfl
  | cons x r ih => rw [List.foldl_cons, ih]; simp [bump]
theorem countRows_length (xss : List (List Int)) : (countRows xss).length = 4 := by
  unfold countRows
  suffices h : ∀ cs : List Int, (xss.foldl bumpRow cs).length = cs.length by rw [h]; rfl
  induction xss with
  | nil => intro cs; rfl
  | cons x r ih => intro cs; rw [List.foldl_cons, ih, bumpRow_length]
theorem countColours_length (n : Int) (xss : List (List Int)) : (countColours n xss).length ≤ 4 := by
  unfold countColours
  split
  · rw [countRows_length]; omega
  · simp
theorem bump_at {cs : List Int} {i : Nat} {v : Int} (h : cs[i]? = some v) : bump cs ((i : Int) + 1) = cs.set i (wrap64 (v + 1)) := by
  have : ((i : Int) + 1 - 1).toNat = i := by omega
  unfold bump
  rw [this, h]
  rfl
theorem colour_at {n : Int} {xss : List (List Int)} (h : coloursB n xss = true) {k j : Nat} {row : List Int} {x : Int} (hr : xss[k]? = some row) (hx : row[j]? = some x) : ∃ i : Nat, i < 4 ∧ x = (i : Int) + 1 := by
  unfold coloursB at h
  simp only [Bool.and_eq_true, List.all_eq_true] at h
  have h1 := h.2 row (List.mem_of_getElem? hr)
  unfold rowOfB at h1
  simp only [Bool.and_eq_true, List.all_eq_true] at h1
  have h2 := h1.2 x (List.mem_of_getElem? hx)
  unfold carrierB inR at h2
  simp at h2
  exact ⟨(x - 1).toNat, by omega, by omega⟩
theorem bumpRow_snoc {cs row : List Int} {j : Nat} {x : Int} (hx : row[j]? = some x) : bumpRow cs (row.take (j + 1)) = bump (bumpRow cs (row.take j)) x := by
  unfold bumpRow
  rw [take_snoc hx, List.foldl_append]
  rfl
theorem countRows_snoc {xss : List (List Int)} {j : Nat} {x : List Int} (hx : xss[j]? = some x) : countRows (xss.take (j + 1)) = bumpRow (countRows (xss.take j)) x := by
  unfold countRows
  rw [take_snoc hx, List.foldl_append]
  rfl

set_option maxHeartbeats 2000000 in
theorem spec_CountColours (n : Int) (xss : List (List Int)) (A : Option Addr) (c : Nat) (w : World) (h : Ints2 w A xss) (hl : xss.length ≤ 9223372036854775807) :
    Calls Try.prog 54 #[.agg #[.int .i64 n, .slice A xss.length c]] w fun e w' => ∃ A' c', e = .returned (.slice A' (countColours n xss).length c') ∧ OwnI w' w.heap.size w'.heap.size A' c' (countColours n xss) ∧ Below w.heap.size w w' := by
  by_cases hv : coloursB n xss = true
  · have HF : Hid (countColours n xss = countRows xss) := Lib.hid (by rw [countColours, if_pos hv])
    have HV := Lib.hid hv
    go_enter Try.func54, Try.ntmps54
    go_wp2_with (fail)
    refine (spec_l19Ok _ _ n A c xss _ (h.below (by (repeat (first | exact Below.refl _ _ | assumption | apply Below.drew | apply below_drewN | (refine Below.alloc ?_ (by first | omega | (simp; done) | (simp; omega)) _) | (refine Below.setCell ?_ (by first | omega | (simp; done) | (simp; omega)) _))))) hl (by simp) (by simp)).mono ?_; rintro e w2 ⟨rfl, hdr⟩
    have hz : w2.heap.size = w.heap.size + 1 := by obtain ⟨q, rfl⟩ := hdr; simp
    have b2 : Below w.heap.size w w2 := by obtain ⟨q, rfl⟩ := hdr; (repeat (first | exact Below.refl _ _ | assumption | apply Below.drew | apply below_drewN | (refine Below.alloc ?_ (by first | omega | (simp; done) | (simp; omega)) _) | (refine Below.setCell ?_ (by first | omega | (simp; done) | (simp; omega)) _)))
    have k2 : Blk w2 w.heap.size 49 #[.int .i64 n, .slice A xss.length c] := by obtain ⟨q, rfl⟩ := hdr; exact (Blk.new _ _ _).drewN q
    clear hdr
    obtain ⟨i0, hi0, hz0, hz1, hz2⟩ := info_parts info_int64
    have h2 : Ints2 w2 A xss := h.below b2
    have HZ := Lib.hid hz; clear hz
    go_wp2_with (refine wpList_make_full _ rfl _ _ _ rfl w2.heap.size 2 i0 _ 1 Try.underlying22 hi0 hz0 hz1 .i64 .i64 _ _ 4 rfl rfl rfl rfl (by rw [hz2]; omega) (by unfold maxLen; omega) (Nat.le_refl _) ?_; intro w3 hown hg)
    have hb3 : Below w2.heap.size w2 w3 := (Below.refl _ _).grown hg (Nat.le_refl _) (by simp)
    have o3 : OwnC w3 w2.heap.size w3.heap.size 2 1 (some ⟨w2.heap.size, 0, none⟩) 4 4 (([0, 0, 0, 0] : List Int).map (Value.int .i64)) := by
      have := OwnC.of_own hown (Nat.le_refl _)
      rwa [zeros4] at this
    clear hown hg
    go_loopw [4] (fun i wr => ∃ (k : Nat), k ≤ xss.length ∧ i = .int .i64 k ∧ OwnC wr w2.heap.size wr.heap.size 2 1 (some ⟨w2.heap.size, 0, none⟩) 4 4 ((countRows (xss.take k)).map (Value.int .i64)) ∧ Below w2.heap.size w2 wr) (fun i _ => xss.length - (intOf i).toNat)
    case atStart => exact ⟨0, Nat.zero_le _, rfl, o3, hb3⟩
    case round =>
      clear o3 hb3
      obtain ⟨k, hk, rfl, ho, hb⟩ := hrel
      obtain ⟨r0, r1⟩ := (k2.below hb (by have := HZ.out; omega)).c2
      by_cases hlt : k < xss.length
      · obtain ⟨b, off, A', c', row, rfl, hx, hc, hi, hxl⟩ := h2 k hlt
        have hcr := cells_below hb _ _ hc
        have HX := Lib.hid hx; clear hx
        have j1 : (0 : Int) ≤ (k : Int) := by omega
        have j2 : (k : Int) < (xss.length : Int) := by omega
        go_wp2_with (fail)
        go_loopw [5] (fun i ws => ∃ (j : Nat), j ≤ row.length ∧ i = .int .i64 j ∧ OwnC ws w2.heap.size ws.heap.size 2 1 (some ⟨w2.heap.size, 0, none⟩) 4 4 ((bumpRow (countRows (xss.take k)) (row.take j)).map (Value.int .i64)) ∧ Below w2.heap.size wr ws) (fun i _ => row.length - (intOf i).toNat)
        case atStart => exact ⟨0, Nat.zero_le _, rfl, ho, Below.refl _ _⟩
        case round =>
          clear ho
          obtain ⟨j, hj, rfl, hq, hs⟩ := hrel
          have hbs := hb.trans hs
          obtain ⟨r0, r1⟩ := (k2.below hbs (by have := HZ.out; omega)).c2
          have hc2 := cells_below hbs _ _ hc
          by_cases hjl : j < row.length
          · obtain ⟨b2, off2, x, rfl, hcx, hxx⟩ := (hi.of_cells (cells_below hbs)) j hjl
            obtain ⟨i, hi4, rfl⟩ := colour_at HV.out HX.out hxx
            have HXX := Lib.hid hxx; clear hxx
            have hcl : (bumpRow (countRows (xss.take k)) (row.take j)).length = 4 := by rw [bumpRow_length, countRows_length]
            have HC := Lib.hid hcl
            have hvi : (bumpRow (countRows (xss.take k)) (row.take j))[i]? = some ((bumpRow (countRows (xss.take k)) (row.take j))[i]'(by rw [HC.out]; omega)) := List.getElem?_eq_getElem _
            generalize (bumpRow (countRows (xss.take k)) (row.take j))[i]'(by rw [HC.out]; omega) = v at hvi
            obtain ⟨_, hA, _, _, qc, fc⟩ := hq.cell (j := i) (by simp [HC.out]; omega)
            injection hA with hA
            injection hA with hA
            subst hA
            have e0 : ((bumpRow (countRows (xss.take k)) (row.take j)).map (Value.int .i64))[i]? = some (.int .i64 v) := by simp [hvi]
            rw [List.getElem?_eq_getElem (by simp [HC.out]; omega)] at e0
            injection e0 with e0
            rw [e0] at qc
            have HVI := Lib.hid hvi; clear hvi e0 hcl
            have i1 : (i : Int) + 1 - 1 = (i : Int) := by omega
            have i2 : IntKind.i64.wrap ((i : Int) + 1 - 1) = (i : Int) := by rw [i1]; exact IntWalk.i64_in _ ⟨by omega, by omega⟩
            have i3 : (0 : Int) ≤ (i : Int) := by omega
            have i4 : (i : Int) < 4 := by omega
            have i5 : ((i : Int)).toNat = i := by omega
            have HQ := Lib.hid hq; clear hq
            clear h2 h hi
            set_option maxRecDepth 5000 in go_wp2_with (fail)
            go_roundw
            case rel =>
              refine ⟨j + 1, by omega, by go_num, ?_, by (repeat (first | exact Below.refl _ _ | assumption | apply Below.drew | apply below_drewN | (refine Below.alloc ?_ (by first | omega | (simp; done) | (simp; omega)) _) | (refine Below.setCell ?_ (by first | omega | (simp; done) | (simp; omega)) _)))⟩
              rw [bumpRow_snoc HXX.out, bump_at HVI.out, List.map_set]
              have s1 := (HQ.out.store (j := i) (.int .i64 (wrap64 (v + 1)))).1
              exact s1.mono (Nat.le_refl _) (by simp)
            case measure => simp [intOf]; omega
          · go_wp2_with (fail)
            go_roundw
            case rel =>
              refine ⟨k + 1, by omega, by go_num, ?_, hbs⟩
              rw [countRows_snoc HX.out]
              have e : row.take j = row := take_all (by omega)
              rwa [e] at hq
            case measure => simp [intOf]; omega
      · go_wp2_with (fail)
        go_ret
        rw [HF.out]
        have : k = xss.length := by omega
        subst this
        rw [take_all (Nat.le_refl _)] at ho
        have e : (countRows xss).length = 4 := countRows_length _
        have b4 : Below w.heap.size w2 wr := hb.mono (by have := HZ.out; omega)
        have bz := HZ.out
        refine ⟨_, 4, by rw [e]; rfl, ?_, b2.trans b4⟩
        show OwnC _ _ _ _ _ _ _ _ _
        rw [e]
        exact ho.mono (by omega) (Nat.le_refl _)
  · have hv' : coloursB n xss = false := by simpa using hv
    have HF : Hid (countColours n xss = []) := Lib.hid (by rw [countColours, if_neg hv])
    clear hv
    go_enter Try.func54, Try.ntmps54
    go_wp2_with (fail)
    refine (spec_l19Ok _ _ n A c xss _ (h.below (by (repeat (first | exact Below.refl _ _ | assumption | apply Below.drew | apply below_drewN | (refine Below.alloc ?_ (by first | omega | (simp; done) | (simp; omega)) _) | (refine Below.setCell ?_ (by first | omega | (simp; done) | (simp; omega)) _))))) hl (by simp) (by simp)).mono ?_; rintro e w2 ⟨rfl, k, rfl⟩
    go_wp2_with (fail)
    go_ret
    rw [HF.out]
    exact ⟨none, 0, rfl, OwnC.nil _ _ _ _ _, by (repeat (first | exact Below.refl _ _ | assumption | apply Below.drew | apply below_drewN | (refine Below.alloc ?_ (by first | omega | (simp; done) | (simp; omega)) _) | (refine Below.setCell ?_ (by first | omega | (simp; done) | (simp; omega)) _)))⟩

set_option maxHeartbeats 2000000 in
theorem impl_CountColours (n : Int) (xss : List (List Int)) (A : Option Addr) (c : Nat) (w : World) (h : Ints2 w A xss) (hl : xss.length ≤ 9223372036854775807) :
    Calls Try.prog 55 #[.agg #[.int .i64 n, .slice A xss.length c]] w fun e w' => ∃ A' c', e = .returned (.slice A' (countColours n xss).length c') ∧ OwnI w' w.heap.size w'.heap.size A' c' (countColours n xss) ∧ Below w.heap.size w w' := by
  by_cases hv : coloursB n xss = true
  · have HF : Hid (countColours n xss = countRows xss) := Lib.hid (by rw [countColours, if_pos hv])
    have HV := Lib.hid hv
    go_enter Try.func55, Try.ntmps55
    go_wp2_with (fail)
    refine (impl_ValidColours n xss A c _ (h.below (by (repeat (first | exact Below.refl _ _ | assumption | apply Below.drew | apply below_drewN | (refine Below.alloc ?_ (by first | omega | (simp; done) | (simp; omega)) _) | (refine Below.setCell ?_ (by first | omega | (simp; done) | (simp; omega)) _))))) hl).mono ?_; rintro e w2 ⟨rfl, bb⟩
    have hz : w.heap.size + 1 ≤ w2.heap.size := by have := bb.size; simpa using this
    have b2 : Below w.heap.size w w2 := Below.trans (by (repeat (first | exact Below.refl _ _ | assumption | apply Below.drew | apply below_drewN | (refine Below.alloc ?_ (by first | omega | (simp; done) | (simp; omega)) _) | (refine Below.setCell ?_ (by first | omega | (simp; done) | (simp; omega)) _)))) (bb.mono (by first | omega | (simp; done) | (simp; omega)))
    have k2 : Blk w2 w.heap.size 49 #[.int .i64 n, .slice A xss.length c] := (Blk.new _ _ _).below bb (by simp)
    obtain ⟨r0, r1⟩ := k2.c2
    clear bb
    obtain ⟨i0, hi0, hz0, hz1, hz2⟩ := info_parts info_int64
    have h2 : Ints2 w2 A xss := h.below b2
    go_wp2_with (refine wpList_make_full _ rfl _ _ _ rfl w2.heap.size 2 i0 _ 1 Try.underlying22 hi0 hz0 hz1 .i64 .i64 _ _ 4 rfl rfl rfl rfl (by rw [hz2]; omega) (by unfold maxLen; omega) (Nat.le_refl _) ?_; intro w3 hown hg; have hb3 : Below w2.heap.size w2 w3 := (Below.refl _ _).grown hg (Nat.le_refl _) (by simp); obtain ⟨s0, s1⟩ := (k2.below hb3 (by omega)).c2)
    have o3 : OwnC w3 w2.heap.size w3.heap.size 2 1 (some ⟨w2.heap.size, 0, none⟩) 4 4 (([0, 0, 0, 0] : List Int).map (Value.int .i64)) := by
      have := OwnC.of_own hown (Nat.le_refl _)
      rwa [zeros4] at this
    clear hown hg
    go_loopw [15] (fun i wr => ∃ (k : Nat), k ≤ xss.length ∧ i = .int .i64 k ∧ OwnC wr w2.heap.size wr.heap.size 2 1 (some ⟨w2.heap.size, 0, none⟩) 4 4 ((countRows (xss.take k)).map (Value.int .i64)) ∧ Below w2.heap.size w2 wr) (fun i _ => xss.length - (intOf i).toNat)
    case atStart => exact ⟨0, Nat.zero_le _, rfl, o3, hb3⟩
    case round =>
      clear o3 hb3
      obtain ⟨k, hk, rfl, ho, hb⟩ := hrel
      by_cases hlt : k < xss.length
      · obtain ⟨b, off, A', c', row, rfl, hx, hc, hi, hxl⟩ := h2 k hlt
        have hcr := cells_below hb _ _ hc
        have HX := Lib.hid hx; clear hx
        have j1 : (0 : Int) ≤ (k : Int) := by omega
        have j2 : (k : Int) < (xss.length : Int) := by omega
        go_wp2_with (fail)
        go_loopw [21] (fun i ws => ∃ (j : Nat), j ≤ row.length ∧ i = .int .i64 j ∧ OwnC ws w2.heap.size ws.heap.size 2 1 (some ⟨w2.heap.size, 0, none⟩) 4 4 ((bumpRow (countRows (xss.take k)) (row.take j)).map (Value.int .i64)) ∧ Below w2.heap.size wr ws) (fun i _ => row.length - (intOf i).toNat)
        case atStart => exact ⟨0, Nat.zero_le _, rfl, ho, Below.refl _ _⟩
        case round =>
          clear ho
          obtain ⟨j, hj, rfl, hq, hs⟩ := hrel
          have hbs := hb.trans hs
          have hc2 := cells_below hbs _ _ hc
          by_cases hjl : j < row.length
          · obtain ⟨b2, off2, x, rfl, hcx, hxx⟩ := (hi.of_cells (cells_below hbs)) j hjl
            obtain ⟨i, hi4, rfl⟩ := colour_at HV.out HX.out hxx
            have HXX := Lib.hid hxx; clear hxx
            have hcl : (bumpRow (countRows (xss.take k)) (row.take j)).length = 4 := by rw [bumpRow_length, countRows_length]
            have HC := Lib.hid hcl
            have hvi : (bumpRow (countRows (xss.take k)) (row.take j))[i]? = some ((bumpRow (countRows (xss.take k)) (row.take j))[i]'(by rw [HC.out]; omega)) := List.getElem?_eq_getElem _
            generalize (bumpRow (countRows (xss.take k)) (row.take j))[i]'(by rw [HC.out]; omega) = v at hvi
            obtain ⟨_, hA, _, _, qc, fc⟩ := hq.cell (j := i) (by simp [HC.out]; omega)
            injection hA with hA
            injection hA with hA
            subst hA
            have e0 : ((bumpRow (countRows (xss.take k)) (row.take j)).map (Value.int .i64))[i]? = some (.int .i64 v) := by simp [hvi]
            rw [List.getElem?_eq_getElem (by simp [HC.out]; omega)] at e0
            injection e0 with e0
            rw [e0] at qc
            have HVI := Lib.hid hvi; clear hvi e0 hcl
            have i1 : (i : Int) + 1 - 1 = (i : Int) := by omega
            have i2 : IntKind.i64.wrap ((i : Int) + 1 - 1) = (i : Int) := by rw [i1]; exact IntWalk.i64_in _ ⟨by omega, by omega⟩
            have i3 : (0 : Int) ≤ (i : Int) := by omega
            have i4 : (i : Int) < 4 := by omega
            have i5 : ((i : Int)).toNat = i := by omega
            have HQ := Lib.hid hq; clear hq
            clear h2 h hi
            set_option maxRecDepth 5000 in go_wp2_with (fail)
            go_roundw
            case rel =>
              refine ⟨j + 1, by omega, by go_num, ?_, by (repeat (first | exact Below.refl _ _ | assumption | apply Below.drew | apply below_drewN | (refine Below.alloc ?_ (by first | omega | (simp; done) | (simp; omega)) _) | (refine Below.setCell ?_ (by first | omega | (simp; done) | (simp; omega)) _)))⟩
              rw [bumpRow_snoc HXX.out, bump_at HVI.out, List.map_set]
              have s1 := (HQ.out.store (j := i) (.int .i64 (wrap64 (v + 1)))).1
              exact s1.mono (Nat.le_refl _) (by simp)
            case measure => simp [intOf]; omega
          · go_wp2_with (fail)
            go_roundw
            case rel =>
              refine ⟨k + 1, by omega, by go_num, ?_, hbs⟩
              rw [countRows_snoc HX.out]
              have e : row.take j = row := take_all (by omega)
              rwa [e] at hq
            case measure => simp [intOf]; omega
      · go_wp2_with (fail)
        go_ret
        rw [HF.out]
        have : k = xss.length := by omega
        subst this
        rw [take_all (Nat.le_refl _)] at ho
        have e : (countRows xss).length = 4 := countRows_length _
        have b4 : Below w.heap.size w2 wr := hb.mono (by omega)
        refine ⟨_, 4, by rw [e]; rfl, ?_, b2.trans b4⟩
        show OwnC _ _ _ _ _ _ _ _ _
        rw [e]
        exact ho.mono (by omega) (Nat.le_refl _)
  · have hv' : coloursB n xss = false := by simpa using hv
    have HF : Hid (countColours n xss = []) := Lib.hid (by rw [countColours, if_neg hv])
    clear hv
    go_enter Try.func55, Try.ntmps55
    go_wp2_with (fail)
    refine (impl_ValidColours n xss A c _ (h.below (by (repeat (first | exact Below.refl _ _ | assumption | apply Below.drew | apply below_drewN | (refine Below.alloc ?_ (by first | omega | (simp; done) | (simp; omega)) _) | (refine Below.setCell ?_ (by first | omega | (simp; done) | (simp; omega)) _))))) hl).mono ?_; rintro e w2 ⟨rfl, bb⟩
    have b2 : Below w.heap.size w w2 := Below.trans (by (repeat (first | exact Below.refl _ _ | assumption | apply Below.drew | apply below_drewN | (refine Below.alloc ?_ (by first | omega | (simp; done) | (simp; omega)) _) | (refine Below.setCell ?_ (by first | omega | (simp; done) | (simp; omega)) _)))) (bb.mono (by first | omega | (simp; done) | (simp; omega)))
    go_wp2_with (fail)
    go_ret
    rw [HF.out]
    exact ⟨none, 0, rfl, OwnC.nil _ _ _ _ _, b2⟩

end Go.Proofs.Ytdipejcndpkmfaa
