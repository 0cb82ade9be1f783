/- The hand knitter's questions: FirstOf, ColumnAt. -/
import Derived.Test.YtdipejcndpkmfaaA
namespace Go.Proofs.Ytdipejcndpkmfaa
open Go.RowKit

theorem Ints.take {w : World} {A : Option Addr} {xs : List Int} (h : Ints w A xs) (n : Nat) : Ints w A (xs.take n) := by
  intro k hk
  obtain ⟨b, off, x, hA, hc, hx⟩ := h k (by rw [List.length_take] at hk; omega)
  exact ⟨b, off, x, hA, hc, by rw [List.getElem?_take, if_pos (by rw [List.length_take] at hk; omega)]; exact hx⟩

theorem impl_FirstOf (A : Option Addr) (c : Nat) (xs : List Int) (col : Int) (w : World) (h : Ints w A xs) (hl : xs.length ≤ 1048576) (hc : xs.length ≤ c) : Calls Try.prog 20 #[.slice A xs.length c, .int .i64 col] w fun e w' => e = .returned (.tuple #[.int .i64 (firstOfP xs col).1, .bool (firstOfP xs col).2]) ∧ w = w' := by
  by_cases hs : sizesB xs = true
  · by_cases hi : inR col 0 ((xs.length : Int) - 1) = true
    · obtain ⟨h0, h1⟩ := inR_iff.1 hi
      obtain ⟨j, rfl⟩ := Int.eq_ofNat_of_zero_le h0
      have hj : (xs.take j).length = j := by rw [List.length_take]; omega
      have hsum := impl_sumOf A c (xs.take j) w (h.take j) (by omega)
      rw [hj] at hsum
      have HS := Lib.hid hsum; clear hsum
      have HF : Hid (firstOfP xs j = (sum64 (xs.take j), true)) := Lib.hid (by rw [firstOfP, hs, hi]; simp)
      go_enter Try.func20, Try.ntmps20
      go_wp2_with (fail)
      refine (impl_ValidSizes _ _ _ _ h (by omega)).mono ?_; rintro e _ ⟨rfl, rfl⟩
      go_wp2_with (fail)
      refine (impl_within _ _ _ _).mono ?_; rintro e _ ⟨rfl, rfl⟩
      go_wp2_with (fail)
      refine HS.out.mono ?_; rintro e _ ⟨rfl, rfl⟩
      go_wp2_with (fail)
      go_ret2
      exact ⟨ret_ib HF.out, rfl⟩
    · have hi' : inR col 0 ((xs.length : Int) - 1) = false := by simpa using hi
      have HF : Hid (firstOfP xs col = (0, false)) := Lib.hid (by rw [firstOfP, hi']; simp)
      clear hi
      go_enter Try.func20, Try.ntmps20
      go_wp2_with (fail)
      refine (impl_ValidSizes _ _ _ _ h (by omega)).mono ?_; rintro e _ ⟨rfl, rfl⟩
      go_wp2_with (fail)
      refine (impl_within _ _ _ _).mono ?_; rintro e _ ⟨rfl, rfl⟩
      go_wp2_with (fail)
      go_ret2
      exact ⟨ret_ib HF.out, rfl⟩
  · have hs' : sizesB xs = false := by simpa using hs
    have HF : Hid (firstOfP xs col = (0, false)) := Lib.hid (by rw [firstOfP, hs']; simp)
    clear hs
    go_enter Try.func20, Try.ntmps20
    go_wp2_with (fail)
    refine (impl_ValidSizes _ _ _ _ h (by omega)).mono ?_; rintro e _ ⟨rfl, rfl⟩
    go_wp2_with (fail)
    go_ret2
    exact ⟨ret_ib HF.out, rfl⟩

theorem spec_FirstOf (A : Option Addr) (c : Nat) (xs : List Int) (col : Int) (w : World) (h : Ints w A xs) (hl : xs.length ≤ 1048576) (hc : xs.length ≤ c) : Calls Try.prog 19 #[.slice A xs.length c, .int .i64 col] w fun e w' => e = .returned (.tuple #[.int .i64 (firstOfP xs col).1, .bool (firstOfP xs col).2]) ∧ w = w' := by
  by_cases hs : sizesB xs = true
  · by_cases hi : inR col 0 ((xs.length : Int) - 1) = true
    · obtain ⟨h0, h1⟩ := inR_iff.1 hi
      obtain ⟨j, rfl⟩ := Int.eq_ofNat_of_zero_le h0
      have hj : (xs.take j).length = j := by rw [List.length_take]; omega
      have hsum := spec_l17Sum A c (xs.take j) w (h.take j) (by omega)
      rw [hj] at hsum
      have HS := Lib.hid hsum; clear hsum
      have HF : Hid (firstOfP xs j = (sum64 (xs.take j), true)) := Lib.hid (by rw [firstOfP, hs, hi]; simp)
      go_enter Try.func19, Try.ntmps19
      go_wp2_with (fail)
      refine (spec_l17Ok _ _ _ _ h (by omega)).mono ?_; rintro e _ ⟨rfl, rfl⟩
      go_wp2_with (fail)
      refine (spec_l00In _ _ _ _).mono ?_; rintro e _ ⟨rfl, rfl⟩
      go_wp2_with (fail)
      refine HS.out.mono ?_; rintro e _ ⟨rfl, rfl⟩
      go_wp2_with (fail)
      go_ret2
      exact ⟨ret_ib HF.out, rfl⟩
    · have hi' : inR col 0 ((xs.length : Int) - 1) = false := by simpa using hi
      have HF : Hid (firstOfP xs col = (0, false)) := Lib.hid (by rw [firstOfP, hi']; simp)
      clear hi
      go_enter Try.func19, Try.ntmps19
      go_wp2_with (fail)
      refine (spec_l17Ok _ _ _ _ h (by omega)).mono ?_; rintro e _ ⟨rfl, rfl⟩
      go_wp2_with (fail)
      refine (spec_l00In _ _ _ _).mono ?_; rintro e _ ⟨rfl, rfl⟩
      go_wp2_with (fail)
      go_ret2
      exact ⟨ret_ib HF.out, rfl⟩
  · have hs' : sizesB xs = false := by simpa using hs
    have HF : Hid (firstOfP xs col = (0, false)) := Lib.hid (by rw [firstOfP, hs']; simp)
    clear hs
    go_enter Try.func19, Try.ntmps19
    go_wp2_with (fail)
    refine (spec_l17Ok _ _ _ _ h (by omega)).mono ?_; rintro e _ ⟨rfl, rfl⟩
    go_wp2_with (fail)
    go_ret2
    exact ⟨ret_ib HF.out, rfl⟩

theorem impl_ColumnAt (A : Option Addr) (c : Nat) (xs : List Int) (s0 : Int) (w : World) (h : Ints w A xs) (hl : xs.length ≤ 1048576) : Calls Try.prog 22 #[.slice A xs.length c, .int .i64 s0] w fun e w' => e = .returned (.tuple #[.int .i64 (columnAtP xs s0).1, .bool (columnAtP xs s0).2]) ∧ w = w' := by
  by_cases hs : sizesB xs = true
  · by_cases hi : s0 < 0
    · have HF : Hid (columnAtP xs s0 = (0, false)) := Lib.hid (by simp [columnAtP, hi])
      go_enter Try.func22, Try.ntmps22
      go_wp2_with (refine (impl_ValidSizes _ _ _ _ h (by omega)).mono ?_; rintro e _ ⟨rfl, rfl⟩)
      go_ret2
      exact ⟨ret_ib HF.out, rfl⟩
    · have HF : Hid (columnAtP xs s0 = colAt xs s0 0) := Lib.hid (by simp [columnAtP, hi, hs])
      have hi' : decide (s0 < 0) = false := decide_eq_false hi
      go_enter Try.func22, Try.ntmps22
      go_wp2_with (refine (impl_ValidSizes _ _ _ _ h (by omega)).mono ?_; rintro e _ ⟨rfl, rfl⟩)
      go_loop [1, 17] (fun s i => ∃ (k : Nat) (t : Int), k ≤ xs.length ∧ i = .int .i64 k ∧ s = .int .i64 t ∧ colAt xs s0 0 = colAt (xs.drop k) t k) (fun _ i => xs.length - (intOf i).toNat)
      case atStart => exact ⟨0, s0, Nat.zero_le _, rfl, rfl, rfl⟩
      case round =>
        obtain ⟨k, t, hk, rfl, rfl, ha⟩ := hrel
        have HA := Lib.hid ha; clear ha
        by_cases hlt : k < xs.length
        · obtain ⟨b, off, x, rfl, hc, hx⟩ := h k hlt
          have HX := Lib.hid hx; clear hx
          by_cases htx : t < x
          · go_wp2
            go_ret2
            exact ⟨ret_ib (by rw [HF.out, HA.out, drop_cons HX.out, colAt, if_pos htx]), rfl⟩
          · go_wp2
            go_round
            case rel => exact ⟨k + 1, _, by omega, by go_num, rfl, by rw [HA.out, drop_cons HX.out, colAt, if_neg htx]; rfl⟩
            case measure => simp [intOf]; omega
        · go_wp2
          go_ret2
          exact ⟨ret_ib (by rw [HF.out, HA.out, drop_all (by omega)]; rfl), rfl⟩
  · have hs' : sizesB xs = false := by simpa using hs
    have HF : Hid (columnAtP xs s0 = (0, false)) := Lib.hid (by simp [columnAtP, hs'])
    clear hs
    go_enter Try.func22, Try.ntmps22
    go_wp2_with (refine (impl_ValidSizes _ _ _ _ h (by omega)).mono ?_; rintro e _ ⟨rfl, rfl⟩)
    go_ret2
    exact ⟨ret_ib HF.out, rfl⟩
theorem spec_ColumnAt (A : Option Addr) (c : Nat) (xs : List Int) (s0 : Int) (w : World) (h : Ints w A xs) (hl : xs.length ≤ 1048576) : Calls Try.prog 21 #[.slice A xs.length c, .int .i64 s0] w fun e w' => e = .returned (.tuple #[.int .i64 (columnAtP xs s0).1, .bool (columnAtP xs s0).2]) ∧ w = w' := by
  by_cases hs : sizesB xs = true
  · by_cases hi : s0 < 0
    · have HF : Hid (columnAtP xs s0 = (0, false)) := Lib.hid (by simp [columnAtP, hi])
      go_enter Try.func21, Try.ntmps21
      go_wp2_with (refine (spec_l17Ok _ _ _ _ h (by omega)).mono ?_; rintro e _ ⟨rfl, rfl⟩)
      go_ret2
      exact ⟨ret_ib HF.out, rfl⟩
    · have HF : Hid (columnAtP xs s0 = colAt xs s0 0) := Lib.hid (by simp [columnAtP, hi, hs])
      have hi' : decide (s0 < 0) = false := decide_eq_false hi
      go_enter Try.func21, Try.ntmps21
      go_wp2_with (refine (spec_l17Ok _ _ _ _ h (by omega)).mono ?_; rintro e _ ⟨rfl, rfl⟩)
      go_loop [1, 6] (fun s i => ∃ (k : Nat) (t : Int), k ≤ xs.length ∧ i = .int .i64 k ∧ s = .int .i64 t ∧ colAt xs s0 0 = colAt (xs.drop k) t k) (fun _ i => xs.length - (intOf i).toNat)
      case atStart => exact ⟨0, s0, Nat.zero_le _, rfl, rfl, rfl⟩
      case round =>
        obtain ⟨k, t, hk, rfl, rfl, ha⟩ := hrel
        have HA := Lib.hid ha; clear ha
        by_cases hlt : k < xs.length
        · obtain ⟨b, off, x, rfl, hc, hx⟩ := h k hlt
          have HX := Lib.hid hx; clear hx
          by_cases htx : t < x
          · go_wp2
            go_ret2
            exact ⟨ret_ib (by rw [HF.out, HA.out, drop_cons HX.out, colAt, if_pos htx]), rfl⟩
          · go_wp2
            go_round
            case rel => exact ⟨k + 1, _, by omega, by go_num, rfl, by rw [HA.out, drop_cons HX.out, colAt, if_neg htx]; rfl⟩
            case measure => simp [intOf]; omega
        · go_wp2
          go_ret2
          exact ⟨ret_ib (by rw [HF.out, HA.out, drop_all (by omega)]; rfl), rfl⟩
  · have hs' : sizesB xs = false := by simpa using hs
    have HF : Hid (columnAtP xs s0 = (0, false)) := Lib.hid (by simp [columnAtP, hs'])
    clear hs
    go_enter Try.func21, Try.ntmps21
    go_wp2_with (refine (spec_l17Ok _ _ _ _ h (by omega)).mono ?_; rintro e _ ⟨rfl, rfl⟩)
    go_ret2
    exact ⟨ret_ib HF.out, rfl⟩

end Go.Proofs.Ytdipejcndpkmfaa
