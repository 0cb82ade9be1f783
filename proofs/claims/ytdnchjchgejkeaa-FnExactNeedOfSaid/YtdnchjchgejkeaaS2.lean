/- Structs of a number and a slice: the helpers of the laws. -/
import Derived.Test.YtdnchjchgejkeaaRWf
namespace Go.Proofs.Ytdnchjchgejkeaa
open Go.RowKit

theorem laws_szBraid (n : Int) (xs : List Int) (A : Option Addr) (c : Nat) (l : Int) (w : World) (hl : xs.length ≤ 9223372036854775807) (h0 : 0 ≤ l) (h1 : l ≤ 1048576) :
    Calls Try.prog 21 #[.agg #[.int .i64 n, .slice A xs.length c], .int .i64 l] w fun e w' => e = .returned (.int .i64 (szLeft l (xs.length : Nat))) ∧ Below w.heap.size w w' := by
  by_cases hz : l < (xs.length : Nat)
  · have hz' : szLeft l (xs.length : Nat) = -1 := by rw [szLeft, if_pos hz]
    go_enter Try.func21, Try.ntmps21
    go_wp2_with (fail)
    refine (laws_szInt64S _ _ _ _ _ hl h0 h1).mono ?_; rintro e w2 ⟨rfl, rfl⟩
    go_wp2_with (fail)
    go_ret
    exact ⟨ret_int hz'.symm, by (repeat (first | exact Below.refl _ _ | assumption | apply Below.drew | apply below_drewN | (refine Below.alloc ?_ (by first | omega | (simp; done) | (simp; omega)) _) | (refine Below.setCell ?_ (by first | omega | (simp; done) | (simp; omega)) _)))⟩
  · have hz' : szLeft l (xs.length : Nat) = l - (xs.length : Nat) := by rw [szLeft, if_neg hz]
    have hd : decide (l - ((xs.length : Nat) : Int) < 0) = false := decide_eq_false (by omega)
    go_enter Try.func21, Try.ntmps21
    go_wp2_with (fail)
    refine (laws_szInt64S _ _ _ _ _ hl h0 h1).mono ?_; rintro e w2 ⟨rfl, rfl⟩
    go_wp2_with (fail)
    go_ret
    exact ⟨ret_int hz'.symm, by (repeat (first | exact Below.refl _ _ | assumption | apply Below.drew | apply below_drewN | (refine Below.alloc ?_ (by first | omega | (simp; done) | (simp; omega)) _) | (refine Below.setCell ?_ (by first | omega | (simp; done) | (simp; omega)) _)))⟩

theorem laws_toBraid (n : Int) (xs : List Int) (A : Option Addr) (c : Nat) (w : World) (h : Ints w A xs) (hl : xs.length ≤ 1048576) :
    Calls Try.prog 23 #[.agg #[.int .i64 n, .slice A xs.length c]] w fun e w' => ∃ A' c', e = .returned (.agg #[.int .i64 n, .slice A' xs.length c']) ∧ OwnI w' w.heap.size w'.heap.size A' c' xs ∧ Below w.heap.size w w' := by
  go_enter Try.func23, Try.ntmps23
  go_wp2_with (fail)
  refine (laws_toInt64S A c xs _ (h.below ?hb) hl).mono ?_
  case hb => (repeat (first | exact Below.refl _ _ | assumption | apply Below.drew | apply below_drewN | (refine Below.alloc ?_ (by first | omega | (simp; done) | (simp; omega)) _) | (refine Below.setCell ?_ (by first | omega | (simp; done) | (simp; omega)) _)))
  rintro e w1 ⟨A1, c1, rfl, o1, b1⟩
  simp only [World.size_alloc] at o1 b1
  obtain ⟨hc, hf⟩ := bcell b1
  go_wp2_with (fail)
  refine bodyPost_ret (v := .agg #[.int .i64 n, .slice A1 xs.length c1]) (by simp [results, Try.results23, go_sem, hc]) rfl ⟨A1, c1, rfl, ?_, ?_⟩
  · refine OwnC.mono (lo := w.heap.size + 1 + 1 + 1) (hi := w1.heap.size) ?_ (by first | omega | (simp; done) | (simp; omega)) (by first | omega | (simp; done) | (simp; omega))
    repeat (first | assumption | (refine OwnC.far ?_ (by first | omega | (simp; done) | (simp; omega)) _))
  · have b2 : Below w.heap.size w w1 := Below.trans (by (repeat (first | exact Below.refl _ _ | assumption | apply Below.drew | apply below_drewN | (refine Below.alloc ?_ (by first | omega | (simp; done) | (simp; omega)) _) | (refine Below.setCell ?_ (by first | omega | (simp; done) | (simp; omega)) _)))) (b1.mono (by first | omega | (simp; done) | (simp; omega)))
    (repeat (first | exact Below.refl _ _ | assumption | apply Below.drew | apply below_drewN | (refine Below.alloc ?_ (by first | omega | (simp; done) | (simp; omega)) _) | (refine Below.setCell ?_ (by first | omega | (simp; done) | (simp; omega)) _)))

theorem laws_eqBraid (n n' : Int) (xs ys : List Int) (A B : Option Addr) (c c' : Nat) (w : World) (h : Ints w A xs) (h' : Ints w B ys) (hl : xs.length ≤ 9223372036854775807) (hl' : ys.length ≤ 9223372036854775807) :
    Calls Try.prog 26 #[.agg #[.int .i64 n, .slice A xs.length c], .agg #[.int .i64 n', .slice B ys.length c']] w fun e w' => e = .returned (.bool (decide (n = n' ∧ xs = ys))) ∧ Below w.heap.size w w' := by
  by_cases hd : n = n'
  · subst hd
    go_enter Try.func26, Try.ntmps26
    go_wp2_with (fail)
    refine (laws_eqInt64S' A B _ _ xs ys _ (h.below ?hb1) (h'.below ?hb2) hl hl').mono ?_
    case hb1 => (repeat (first | exact Below.refl _ _ | assumption | apply Below.drew | apply below_drewN | (refine Below.alloc ?_ (by first | omega | (simp; done) | (simp; omega)) _) | (refine Below.setCell ?_ (by first | omega | (simp; done) | (simp; omega)) _)))
    case hb2 => (repeat (first | exact Below.refl _ _ | assumption | apply Below.drew | apply below_drewN | (refine Below.alloc ?_ (by first | omega | (simp; done) | (simp; omega)) _) | (refine Below.setCell ?_ (by first | omega | (simp; done) | (simp; omega)) _)))
    rintro e w2 ⟨rfl, b2⟩
    have b3 : Below w.heap.size w w2 := Below.trans (by (repeat (first | exact Below.refl _ _ | assumption | apply Below.drew | apply below_drewN | (refine Below.alloc ?_ (by first | omega | (simp; done) | (simp; omega)) _) | (refine Below.setCell ?_ (by first | omega | (simp; done) | (simp; omega)) _)))) (b2.mono (by first | omega | (simp; done) | (simp; omega)))
    generalize hq : decide (xs = ys) = q
    have HQ := Lib.hid hq; clear hq
    cases q
    · go_wp2_with (fail)
      go_ret
      exact ⟨ret_bool (by have := HQ.out; simpa using this), b3⟩
    · go_wp2_with (fail)
      go_ret
      exact ⟨ret_bool (by have := HQ.out; simpa using this), b3⟩
  · have hd' : (n != n') = true := by simpa using hd
    go_enter Try.func26, Try.ntmps26
    go_wp2_with (fail)
    go_ret
    exact ⟨ret_bool (by simp [hd]), by (repeat (first | exact Below.refl _ _ | assumption | apply Below.drew | apply below_drewN | (refine Below.alloc ?_ (by first | omega | (simp; done) | (simp; omega)) _) | (refine Below.setCell ?_ (by first | omega | (simp; done) | (simp; omega)) _)))⟩

theorem laws_markBraid (n : Int) (xs : List Int) (A : Option Addr) (c : Nat) (k0 : Int) (lo hi : Nat) (w : World) (h : OwnI w lo hi A c xs) (hk0 : 0 ≤ k0) (hk1 : k0 + (xs.length : Nat) ≤ 1000000000000) :
    Calls Try.prog 27 #[.agg #[.int .i64 n, .slice A xs.length c], .int .i64 k0] w fun e w' => e = .returned (.int .i64 (k0 + (xs.length : Nat))) ∧ OwnC w' lo hi 2 1 A xs.length c ((marksI k0 xs.length).map (Value.int .i64)) ∧ Upd lo hi w w' := by
  go_enter Try.func27, Try.ntmps27
  go_wp2_with (fail)
  refine (laws_markInt64S A c xs k0 lo hi _ (h.alloc _) hk0 hk1).mono ?_
  rintro e w1 ⟨rfl, o1, u1⟩
  go_wp2_with (fail)
  go_ret
  exact ⟨rfl, o1, (upd_alloc w _ lo hi).trans u1⟩

theorem laws_szColourChart (n : Int) (xs : List (List Int)) (A : Option Addr) (c : Nat) (l : Int) (w : World) (h : Ints2 w A xs) (hl : xs.length ≤ 9223372036854775807) (h0 : 0 ≤ l) (h1 : l ≤ 1048576) :
    Calls Try.prog 40 #[.agg #[.int .i64 n, .slice A xs.length c], .int .i64 l] w fun e w' => e = .returned (.int .i64 (szLeft l (sizeII xs : Nat))) ∧ Below w.heap.size w w' := by
  by_cases hz : l < (sizeII xs : Nat)
  · have hz' : szLeft l (sizeII xs : Nat) = -1 := by rw [szLeft, if_pos hz]
    go_enter Try.func40, Try.ntmps40
    go_wp2_with (fail)
    refine (laws_szInt64SS _ _ _ _ _ (h.below (by (repeat (first | exact Below.refl _ _ | assumption | apply Below.drew | apply below_drewN | (refine Below.alloc ?_ (by first | omega | (simp; done) | (simp; omega)) _) | (refine Below.setCell ?_ (by first | omega | (simp; done) | (simp; omega)) _))))) hl h0 h1).mono ?_; rintro e w2 ⟨rfl, b2⟩
    go_wp2_with (fail)
    go_ret
    exact ⟨ret_int hz'.symm, (Below.trans (by (repeat (first | exact Below.refl _ _ | assumption | apply Below.drew | apply below_drewN | (refine Below.alloc ?_ (by first | omega | (simp; done) | (simp; omega)) _) | (refine Below.setCell ?_ (by first | omega | (simp; done) | (simp; omega)) _)))) (b2.mono (by first | omega | (simp; done) | (simp; omega))))⟩
  · have hz' : szLeft l (sizeII xs : Nat) = l - (sizeII xs : Nat) := by rw [szLeft, if_neg hz]
    have hd : decide (l - ((sizeII xs : Nat) : Int) < 0) = false := decide_eq_false (by omega)
    go_enter Try.func40, Try.ntmps40
    go_wp2_with (fail)
    refine (laws_szInt64SS _ _ _ _ _ (h.below (by (repeat (first | exact Below.refl _ _ | assumption | apply Below.drew | apply below_drewN | (refine Below.alloc ?_ (by first | omega | (simp; done) | (simp; omega)) _) | (refine Below.setCell ?_ (by first | omega | (simp; done) | (simp; omega)) _))))) hl h0 h1).mono ?_; rintro e w2 ⟨rfl, b2⟩
    go_wp2_with (fail)
    go_ret
    exact ⟨ret_int hz'.symm, (Below.trans (by (repeat (first | exact Below.refl _ _ | assumption | apply Below.drew | apply below_drewN | (refine Below.alloc ?_ (by first | omega | (simp; done) | (simp; omega)) _) | (refine Below.setCell ?_ (by first | omega | (simp; done) | (simp; omega)) _)))) (b2.mono (by first | omega | (simp; done) | (simp; omega))))⟩

theorem laws_toColourChart (n : Int) (xs : List (List Int)) (A : Option Addr) (c : Nat) (w : World) (h : Ints2 w A xs) (hl : sizeII xs ≤ 1048576) :
    Calls Try.prog 42 #[.agg #[.int .i64 n, .slice A xs.length c]] w fun e w' => ∃ A' c', e = .returned (.agg #[.int .i64 n, .slice A' xs.length c']) ∧ OwnII w' w.heap.size w'.heap.size A' xs.length c' xs ∧ Below w.heap.size w w' := by
  go_enter Try.func42, Try.ntmps42
  go_wp2_with (fail)
  refine (laws_toInt64SS xs A c _ (h.below ?hb) hl).mono ?_
  case hb => (repeat (first | exact Below.refl _ _ | assumption | apply Below.drew | apply below_drewN | (refine Below.alloc ?_ (by first | omega | (simp; done) | (simp; omega)) _) | (refine Below.setCell ?_ (by first | omega | (simp; done) | (simp; omega)) _)))
  rintro e w1 ⟨A1, c1, rfl, o1, b1⟩
  simp only [World.size_alloc] at o1 b1
  obtain ⟨hc, hf⟩ := bcell b1
  go_wp2_with (fail)
  refine bodyPost_ret (v := .agg #[.int .i64 n, .slice A1 xs.length c1]) (by simp [results, Try.results42, go_sem, hc]) rfl ⟨A1, c1, rfl, ?_, ?_⟩
  · refine OwnII.mono (lo := w.heap.size + 1 + 1 + 1) (hi := w1.heap.size) ?_ (by first | omega | (simp; done) | (simp; omega)) (by first | omega | (simp; done) | (simp; omega))
    repeat (first | assumption | (refine OwnII.far ?_ (by first | omega | (simp; done) | (simp; omega)) _))
  · have b2 : Below w.heap.size w w1 := Below.trans (by (repeat (first | exact Below.refl _ _ | assumption | apply Below.drew | apply below_drewN | (refine Below.alloc ?_ (by first | omega | (simp; done) | (simp; omega)) _) | (refine Below.setCell ?_ (by first | omega | (simp; done) | (simp; omega)) _)))) (b1.mono (by first | omega | (simp; done) | (simp; omega)))
    (repeat (first | exact Below.refl _ _ | assumption | apply Below.drew | apply below_drewN | (refine Below.alloc ?_ (by first | omega | (simp; done) | (simp; omega)) _) | (refine Below.setCell ?_ (by first | omega | (simp; done) | (simp; omega)) _)))

theorem laws_eqColourChart (n n' : Int) (xs ys : List (List Int)) (A B : Option Addr) (c c' : Nat) (w : World) (h : Ints2 w A xs) (h' : Ints2 w B ys) (hl : xs.length ≤ 1000000000000) (hl' : ys.length ≤ 1000000000000) :
    Calls Try.prog 44 #[.agg #[.int .i64 n, .slice A xs.length c], .agg #[.int .i64 n', .slice B ys.length c']] w fun e w' => e = .returned (.bool (decide (n = n' ∧ xs = ys))) ∧ Below w.heap.size w w' := by
  by_cases hd : n = n'
  · subst hd
    go_enter Try.func44, Try.ntmps44
    go_wp2_with (fail)
    refine (laws_eqInt64SS xs ys A B _ _ _ (h.below ?hb1) (h'.below ?hb2) hl hl').mono ?_
    case hb1 => (repeat (first | exact Below.refl _ _ | assumption | apply Below.drew | apply below_drewN | (refine Below.alloc ?_ (by first | omega | (simp; done) | (simp; omega)) _) | (refine Below.setCell ?_ (by first | omega | (simp; done) | (simp; omega)) _)))
    case hb2 => (repeat (first | exact Below.refl _ _ | assumption | apply Below.drew | apply below_drewN | (refine Below.alloc ?_ (by first | omega | (simp; done) | (simp; omega)) _) | (refine Below.setCell ?_ (by first | omega | (simp; done) | (simp; omega)) _)))
    rintro e w2 ⟨rfl, b2⟩
    have b3 : Below w.heap.size w w2 := Below.trans (by (repeat (first | exact Below.refl _ _ | assumption | apply Below.drew | apply below_drewN | (refine Below.alloc ?_ (by first | omega | (simp; done) | (simp; omega)) _) | (refine Below.setCell ?_ (by first | omega | (simp; done) | (simp; omega)) _)))) (b2.mono (by first | omega | (simp; done) | (simp; omega)))
    generalize hq : decide (xs = ys) = q
    have HQ := Lib.hid hq; clear hq
    cases q
    · go_wp2_with (fail)
      go_ret
      exact ⟨ret_bool (by have := HQ.out; simpa using this), b3⟩
    · go_wp2_with (fail)
      go_ret
      exact ⟨ret_bool (by have := HQ.out; simpa using this), b3⟩
  · have hd' : (n != n') = true := by simpa using hd
    go_enter Try.func44, Try.ntmps44
    go_wp2_with (fail)
    go_ret
    exact ⟨ret_bool (by simp [hd]), by (repeat (first | exact Below.refl _ _ | assumption | apply Below.drew | apply below_drewN | (refine Below.alloc ?_ (by first | omega | (simp; done) | (simp; omega)) _) | (refine Below.setCell ?_ (by first | omega | (simp; done) | (simp; omega)) _)))⟩

theorem laws_markColourChart (n : Int) (xs : List (List Int)) (A : Option Addr) (c : Nat) (k0 : Int) (lo hi : Nat) (w : World) (h : OwnII w lo hi A xs.length c xs) (hk0 : 0 ≤ k0) (hk1 : k0 + (cntII xs : Nat) ≤ 1000000000000) :
    Calls Try.prog 50 #[.agg #[.int .i64 n, .slice A xs.length c], .int .i64 k0] w fun e w' => e = .returned (.int .i64 (k0 + (cntII xs : Nat))) ∧ OwnII w' lo hi A xs.length c (marksII k0 xs) ∧ Upd lo hi w w' := by
  go_enter Try.func50, Try.ntmps50
  go_wp2_with (fail)
  refine (laws_markInt64SS xs A c k0 lo hi _ (h.alloc _) hk0 hk1).mono ?_
  rintro e w1 ⟨rfl, o1, u1⟩
  go_wp2_with (fail)
  go_ret
  exact ⟨rfl, o1, (upd_alloc w _ lo hi).trans u1⟩

theorem laws_heldColourChart (n : Int) (A : Option Addr) (c : Nat) (xs : List (List Int)) (k0 : Int) (w : World) (h : Ints2 w A (marksII k0 xs)) (hk0 : 0 ≤ k0) (hk1 : k0 + (cntII xs : Nat) ≤ 1000000000000) (hl : xs.length ≤ 1000000000000) :
    Calls Try.prog 51 #[.agg #[.int .i64 n, .slice A xs.length c], .int .i64 k0] w fun e w' => e = .returned (.int .i64 (k0 + (cntII xs : Nat))) ∧ Below w.heap.size w w' := by
  have hd : decide (k0 + ((cntII xs : Nat) : Int) < 0) = false := decide_eq_false (by omega)
  go_enter Try.func51, Try.ntmps51
  go_wp2_with (fail)
  refine (laws_heldInt64SS A c xs k0 _ (h.below (by (repeat (first | exact Below.refl _ _ | assumption | apply Below.drew | apply below_drewN | (refine Below.alloc ?_ (by first | omega | (simp; done) | (simp; omega)) _) | (refine Below.setCell ?_ (by first | omega | (simp; done) | (simp; omega)) _))))) hk0 hk1 hl).mono ?_
  rintro e _ ⟨rfl, rfl⟩
  go_wp2_with (fail)
  go_ret
  exact ⟨rfl, by (repeat (first | exact Below.refl _ _ | assumption | apply Below.drew | apply below_drewN | (refine Below.alloc ?_ (by first | omega | (simp; done) | (simp; omega)) _) | (refine Below.setCell ?_ (by first | omega | (simp; done) | (simp; omega)) _)))⟩

theorem laws_eqChart (n n' : Int) (xs ys : List RowD) (A B : Option Addr) (c c' : Nat) (w : World) (h : RowsR w A xs) (h' : RowsR w B ys) (hl : xs.length ≤ 1000000000000) (hl' : ys.length ≤ 1000000000000) :
    Calls Try.prog 74 #[.agg #[.int .i64 n, .slice A xs.length c], .agg #[.int .i64 n', .slice B ys.length c']] w fun e w' => e = .returned (.bool (decide (n = n' ∧ xs = ys))) ∧ Below w.heap.size w w' := by
  by_cases hd : n = n'
  · subst hd
    go_enter Try.func74, Try.ntmps74
    go_wp2_with (fail)
    refine (laws_eqRowS xs ys A B _ _ _ (h.below ?hb1) (h'.below ?hb2) hl hl').mono ?_
    case hb1 => (repeat (first | exact Below.refl _ _ | assumption | apply Below.drew | apply below_drewN | (refine Below.alloc ?_ (by first | omega | (simp; done) | (simp; omega)) _) | (refine Below.setCell ?_ (by first | omega | (simp; done) | (simp; omega)) _)))
    case hb2 => (repeat (first | exact Below.refl _ _ | assumption | apply Below.drew | apply below_drewN | (refine Below.alloc ?_ (by first | omega | (simp; done) | (simp; omega)) _) | (refine Below.setCell ?_ (by first | omega | (simp; done) | (simp; omega)) _)))
    rintro e w2 ⟨rfl, b2⟩
    have b3 : Below w.heap.size w w2 := Below.trans (by (repeat (first | exact Below.refl _ _ | assumption | apply Below.drew | apply below_drewN | (refine Below.alloc ?_ (by first | omega | (simp; done) | (simp; omega)) _) | (refine Below.setCell ?_ (by first | omega | (simp; done) | (simp; omega)) _)))) (b2.mono (by first | omega | (simp; done) | (simp; omega)))
    generalize hq : decide (xs = ys) = q
    have HQ := Lib.hid hq; clear hq
    cases q
    · go_wp2_with (fail)
      go_ret
      exact ⟨ret_bool (by have := HQ.out; simpa using this), b3⟩
    · go_wp2_with (fail)
      go_ret
      exact ⟨ret_bool (by have := HQ.out; simpa using this), b3⟩
  · have hd' : (n != n') = true := by simpa using hd
    go_enter Try.func74, Try.ntmps74
    go_wp2_with (fail)
    go_ret
    exact ⟨ret_bool (by simp [hd]), by (repeat (first | exact Below.refl _ _ | assumption | apply Below.drew | apply below_drewN | (refine Below.alloc ?_ (by first | omega | (simp; done) | (simp; omega)) _) | (refine Below.setCell ?_ (by first | omega | (simp; done) | (simp; omega)) _)))⟩

theorem laws_markChart (n : Int) (xs : List RowD) (A : Option Addr) (c : Nat) (k0 : Int) (lo hi : Nat) (w : World) (h : OwnRows w lo hi A xs.length c xs) (hk0 : 0 ≤ k0) (hk1 : k0 + (cntRows xs : Nat) ≤ 1000000000000) :
    Calls Try.prog 75 #[.agg #[.int .i64 n, .slice A xs.length c], .int .i64 k0] w fun e w' => e = .returned (.int .i64 (k0 + (cntRows xs : Nat))) ∧ OwnRows w' lo hi A xs.length c (marksRows k0 xs) ∧ Upd lo hi w w' := by
  go_enter Try.func75, Try.ntmps75
  go_wp2_with (fail)
  refine (laws_markRowS xs A c k0 lo hi _ (h.alloc _) hk0 hk1).mono ?_
  rintro e w1 ⟨rfl, o1, u1⟩
  go_wp2_with (fail)
  go_ret
  exact ⟨rfl, o1, (upd_alloc w _ lo hi).trans u1⟩

theorem laws_heldChart (n : Int) (A : Option Addr) (c : Nat) (xs : List RowD) (k0 : Int) (w : World) (h : RowsR w A (marksRows k0 xs)) (hk0 : 0 ≤ k0) (hk1 : k0 + (cntRows xs : Nat) ≤ 1000000000000) (hl : xs.length ≤ 1000000000000) :
    Calls Try.prog 76 #[.agg #[.int .i64 n, .slice A xs.length c], .int .i64 k0] w fun e w' => e = .returned (.int .i64 (k0 + (cntRows xs : Nat))) ∧ Below w.heap.size w w' := by
  have hd : decide (k0 + ((cntRows xs : Nat) : Int) < 0) = false := decide_eq_false (by omega)
  go_enter Try.func76, Try.ntmps76
  go_wp2_with (fail)
  refine (laws_heldRowS A c xs k0 _ (h.below (by (repeat (first | exact Below.refl _ _ | assumption | apply Below.drew | apply below_drewN | (refine Below.alloc ?_ (by first | omega | (simp; done) | (simp; omega)) _) | (refine Below.setCell ?_ (by first | omega | (simp; done) | (simp; omega)) _))))) hk0 hk1 hl).mono ?_
  rintro e _ ⟨rfl, rfl⟩
  go_wp2_with (fail)
  go_ret
  exact ⟨rfl, by (repeat (first | exact Below.refl _ _ | assumption | apply Below.drew | apply below_drewN | (refine Below.alloc ?_ (by first | omega | (simp; done) | (simp; omega)) _) | (refine Below.setCell ?_ (by first | omega | (simp; done) | (simp; omega)) _)))⟩

end Go.Proofs.Ytdnchjchgejkeaa
