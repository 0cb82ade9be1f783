/- SameColours. -/
import Derived.Test.YtdipejcndpkmfaaCC
namespace Go.Proofs.Ytdipejcndpkmfaa
open Go.RowKit

theorem Drawn.trans {a b c : World} (h : Drawn a b) (k : Drawn b c) : Drawn a c := by
  obtain ⟨n, rfl⟩ := k
  exact h.drewN n

theorem spec_SameColours (n m : Int) (xs ys : List (List Int)) (A B : Option Addr) (c d : Nat) (w : World) (h : Ints2 w A xs) (hl : xs.length ≤ 1000000000000) (h' : Ints2 w B ys) (hl' : ys.length ≤ 1000000000000) :
    Calls Try.prog 38 #[.agg #[.int .i64 n, .slice A xs.length c], .agg #[.int .i64 m, .slice B ys.length d]] w fun e w' => e = .returned (.bool (sameColoursB n m xs ys)) ∧ Below w.heap.size w w' := by
  by_cases hd : n = m
  · subst hd
    have HF : Hid (sameColoursB n n xs ys = decide (xs = ys)) := Lib.hid (by simp [sameColoursB])
    go_enter Try.func38, Try.ntmps38
    go_wp2_with (fail)
    refine (spec_l07Same xs ys A B _ _ _ (h.below (by (repeat (first | exact Below.refl _ _ | assumption | apply Below.drew | apply below_drewN | (refine Below.alloc ?_ (by first | omega | (simp; done) | (simp; omega)) _) | (refine Below.setCell ?_ (by first | omega | (simp; done) | (simp; omega)) _))))) (h'.below (by (repeat (first | exact Below.refl _ _ | assumption | apply Below.drew | apply below_drewN | (refine Below.alloc ?_ (by first | omega | (simp; done) | (simp; omega)) _) | (refine Below.setCell ?_ (by first | omega | (simp; done) | (simp; omega)) _))))) hl hl').mono ?_; rintro e w2 ⟨rfl, b2⟩
    have b3 : Below w.heap.size w w2 := Below.trans (by (repeat (first | exact Below.refl _ _ | assumption | apply Below.drew | apply below_drewN | (refine Below.alloc ?_ (by first | omega | (simp; done) | (simp; omega)) _) | (refine Below.setCell ?_ (by first | omega | (simp; done) | (simp; omega)) _)))) (b2.mono (by first | omega | (simp; done) | (simp; omega)))
    go_wp2_with (fail)
    go_ret
    exact ⟨ret_bool HF.out.symm, b3⟩
  · have hd' : (n == m) = false := by simpa using hd
    have HF : Hid (sameColoursB n m xs ys = false) := Lib.hid (by simp [sameColoursB, hd])
    go_enter Try.func38, Try.ntmps38
    go_wp2_with (fail)
    go_ret
    exact ⟨ret_bool HF.out.symm, by (repeat (first | exact Below.refl _ _ | assumption | apply Below.drew | apply below_drewN | (refine Below.alloc ?_ (by first | omega | (simp; done) | (simp; omega)) _) | (refine Below.setCell ?_ (by first | omega | (simp; done) | (simp; omega)) _)))⟩

theorem slices_Equal (A B : Option Addr) (c d : Nat) (xs ys : List Int) (w : World) (h : Ints w A xs) (h' : Ints w B ys) (hl : xs.length ≤ 9223372036854775807) (_hl' : ys.length ≤ 9223372036854775807) :
    Calls Try.prog 100 #[.slice A xs.length c, .slice B ys.length d] w fun e w' => e = .returned (.bool (decide (xs = ys))) ∧ Drawn w w' := by
  by_cases hle : xs.length = ys.length
  · have HL := Lib.hid hle
    have hle' : ((xs.length : Int) != (ys.length : Int)) = false := by simp [hle]
    clear hle
    go_enter Try.func100, Try.ntmps100
    go_wp2
    go_loopw [13] (fun i wr => ∃ (k : Nat), k ≤ xs.length ∧ i = .int .i64 k ∧ xs.take k = ys.take k ∧ Drawn w wr) (fun i _ => xs.length - (intOf i).toNat)
    case atStart => exact ⟨0, Nat.zero_le _, rfl, rfl, Drawn.refl _⟩
    case round =>
      obtain ⟨k, hk, rfl, htk, hdr⟩ := hrel
      have HT := Lib.hid htk; clear htk
      by_cases hlt : k < xs.length
      · have hlt' : k < ys.length := by rw [← HL.out]; exact hlt
        obtain ⟨b, off, x, rfl, hc, hx⟩ := (h.of_cells hdr.cells) k hlt
        obtain ⟨b', off', y, rfl, hc', hy⟩ := (h'.of_cells hdr.cells) k hlt'
        have HX := Lib.hid hx; clear hx
        have HY := Lib.hid hy; clear hy
        by_cases hxy : x = y
        · subst hxy
          go_wp2_with (fail)
          go_quiet (fail)
          go_wp2_with (fail)
          go_roundw
          case rel => exact ⟨k + 1, by omega, by go_num, by rw [take_snoc HX.out, take_snoc HY.out, HT.out], hdr.drewN _⟩
          case measure => simp [intOf]; omega
        · have hxy' : (x != y) = true := by simpa using hxy
          go_wp2_with (fail)
          go_quiet (fail)
          go_wp2_with (fail)
          go_ret
          exact ⟨ret_bool (by simpa using ne_of_getElem? HX.out HY.out hxy), hdr.drewN _⟩
      · go_wp2_with (fail)
        go_ret
        have : k = xs.length := by omega
        subst this
        have e := HT.out
        rw [take_all (Nat.le_refl _), take_all (by rw [HL.out]; exact Nat.le_refl _)] at e
        exact ⟨ret_bool (by simpa using e), hdr⟩
  · have hle' : ((xs.length : Int) != (ys.length : Int)) = true := by simp; omega
    go_enter Try.func100, Try.ntmps100
    go_wp2
    go_ret
    exact ⟨ret_bool (by simp; intro e; exact hle (by rw [e])), Drawn.refl _⟩

theorem impl_sameLists_1 (A B : Option Addr) (c d : Nat) (xs ys : List Int) (w : World) (h : Ints w A xs) (h' : Ints w B ys) (hl : xs.length ≤ 9223372036854775807) (hl' : ys.length ≤ 9223372036854775807) :
    Calls Try.prog 115 #[.slice A xs.length c, .slice B ys.length d] w fun e w' => e = .returned (.bool (decide (xs = ys))) ∧ Drawn w w' := by
  go_enter Try.func115, Try.ntmps115
  go_wp2_with (fail)
  refine (slices_Equal _ _ _ _ _ _ _ h h' hl hl').mono ?_; rintro e w2 ⟨rfl, hdr⟩
  go_wp2_with (fail)
  go_ret
  exact ⟨rfl, hdr⟩
set_option maxHeartbeats 1000000 in
theorem equalFunc_lists (xss yss : List (List Int)) (A B : Option Addr) (c d : Nat) (w : World) (h : Ints2 w A xss) (h' : Ints2 w B yss) (hl : xss.length ≤ 1000000000000) (_hl' : yss.length ≤ 1000000000000) :
    Calls Try.prog 114 #[.slice A xss.length c, .slice B yss.length d, .func (.func 115) #[] #[]] w fun e w' => e = .returned (.bool (decide (xss = yss))) ∧ Drawn w w' := by
  by_cases hle : xss.length = yss.length
  · have HL := Lib.hid hle
    have hle' : ((xss.length : Int) != (yss.length : Int)) = false := by simp [hle]
    clear hle
    go_enter Try.func114, Try.ntmps114
    go_wp2
    go_loopw [17] (fun i wr => ∃ (k : Nat), k ≤ xss.length ∧ i = .int .i64 k ∧ xss.take k = yss.take k ∧ Drawn w wr) (fun i _ => xss.length - (intOf i).toNat)
    case atStart => exact ⟨0, Nat.zero_le _, rfl, rfl, Drawn.refl _⟩
    case round =>
      obtain ⟨k, hk, rfl, htk, hdr⟩ := hrel
      have HT := Lib.hid htk; clear htk
      by_cases hlt : k < xss.length
      · have hlt' : k < yss.length := by rw [← HL.out]; exact hlt
        obtain ⟨b, off, A1, c1, xs, rfl, hx, hc, hi, hxl⟩ := (h.of_cells hdr.cells) k hlt
        obtain ⟨b', off', A2, c2, ys, rfl, hy, hc', hi', hyl⟩ := (h'.of_cells hdr.cells) k hlt'
        have HX := Lib.hid hx; clear hx
        have HY := Lib.hid hy; clear hy
        by_cases hxy : xs = ys
        · have hxy' : decide (xs = ys) = true := decide_eq_true hxy
          have HXY := Lib.hid hxy; clear hxy
          go_wp2_with (fail)
          refine (impl_sameLists_1 _ _ _ _ _ _ _ hi hi' hxl hyl).mono ?_; rintro e w2 ⟨rfl, hdr2⟩
          have hdr3 : Drawn w w2 := hdr.trans hdr2
          go_wp2_with (fail)
          go_roundw
          case rel => exact ⟨k + 1, by omega, by go_num, by rw [take_snoc HX.out, take_snoc HY.out, HT.out, HXY.out], hdr3⟩
          case measure => simp [intOf]; omega
        · have hxy' : decide (xs = ys) = false := decide_eq_false hxy
          have HXY := Lib.hid hxy; clear hxy
          go_wp2_with (fail)
          refine (impl_sameLists_1 _ _ _ _ _ _ _ hi hi' hxl hyl).mono ?_; rintro e w2 ⟨rfl, hdr2⟩
          have hdr3 : Drawn w w2 := hdr.trans hdr2
          go_wp2_with (fail)
          go_ret
          exact ⟨ret_bool (by simpa using ne_of_getElem? HX.out HY.out HXY.out), hdr3⟩
      · go_wp2_with (fail)
        go_ret
        have : k = xss.length := by omega
        subst this
        have e := HT.out
        rw [take_all (Nat.le_refl _), take_all (by rw [HL.out]; exact Nat.le_refl _)] at e
        exact ⟨ret_bool (by simpa using e), hdr⟩
  · have hle' : ((xss.length : Int) != (yss.length : Int)) = true := by simp; omega
    go_enter Try.func114, Try.ntmps114
    go_wp2
    go_ret
    exact ⟨ret_bool (by simp; intro e; exact hle (by rw [e])), Drawn.refl _⟩
theorem impl_sameLists (xss yss : List (List Int)) (A B : Option Addr) (c d : Nat) (w : World) (h : Ints2 w A xss) (h' : Ints2 w B yss) (hl : xss.length ≤ 1000000000000) (hl' : yss.length ≤ 1000000000000) :
    Calls Try.prog 89 #[.slice A xss.length c, .slice B yss.length d] w fun e w' => e = .returned (.bool (decide (xss = yss))) ∧ Drawn w w' := by
  go_enter Try.func89, Try.ntmps89
  go_wp2_with (fail)
  refine (equalFunc_lists _ _ _ _ _ _ _ h h' hl hl').mono ?_; rintro e w2 ⟨rfl, hdr⟩
  go_wp2_with (fail)
  go_ret
  exact ⟨rfl, hdr⟩
theorem impl_SameColours (n m : Int) (xs ys : List (List Int)) (A B : Option Addr) (c d : Nat) (w : World) (h : Ints2 w A xs) (hl : xs.length ≤ 1000000000000) (h' : Ints2 w B ys) (hl' : ys.length ≤ 1000000000000) :
    Calls Try.prog 39 #[.agg #[.int .i64 n, .slice A xs.length c], .agg #[.int .i64 m, .slice B ys.length d]] w fun e w' => e = .returned (.bool (sameColoursB n m xs ys)) ∧ Below w.heap.size w w' := by
  by_cases hd : n = m
  · subst hd
    have HF : Hid (sameColoursB n n xs ys = decide (xs = ys)) := Lib.hid (by simp [sameColoursB])
    go_enter Try.func39, Try.ntmps39
    go_wp2_with (fail)
    refine (impl_sameLists xs ys A B _ _ _ (h.below (by (repeat (first | exact Below.refl _ _ | assumption | apply Below.drew | apply below_drewN | (refine Below.alloc ?_ (by first | omega | (simp; done) | (simp; omega)) _) | (refine Below.setCell ?_ (by first | omega | (simp; done) | (simp; omega)) _))))) (h'.below (by (repeat (first | exact Below.refl _ _ | assumption | apply Below.drew | apply below_drewN | (refine Below.alloc ?_ (by first | omega | (simp; done) | (simp; omega)) _) | (refine Below.setCell ?_ (by first | omega | (simp; done) | (simp; omega)) _))))) hl hl').mono ?_; rintro e w2 ⟨rfl, k, rfl⟩
    go_wp2_with (fail)
    go_ret
    exact ⟨ret_bool HF.out.symm, by (repeat (first | exact Below.refl _ _ | assumption | apply Below.drew | apply below_drewN | (refine Below.alloc ?_ (by first | omega | (simp; done) | (simp; omega)) _) | (refine Below.setCell ?_ (by first | omega | (simp; done) | (simp; omega)) _)))⟩
  · have hd' : (n == m) = false := by simpa using hd
    have HF : Hid (sameColoursB n m xs ys = false) := Lib.hid (by simp [sameColoursB, hd])
    go_enter Try.func39, Try.ntmps39
    go_wp2_with (fail)
    go_ret
    exact ⟨ret_bool HF.out.symm, by (repeat (first | exact Below.refl _ _ | assumption | apply Below.drew | apply below_drewN | (refine Below.alloc ?_ (by first | omega | (simp; done) | (simp; omega)) _) | (refine Below.setCell ?_ (by first | omega | (simp; done) | (simp; omega)) _)))⟩

end Go.Proofs.Ytdipejcndpkmfaa
