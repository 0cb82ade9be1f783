/- Structs of a number and a slice: the helpers of the laws. -/
import Derived.Test.YtfgbhhkmdeljoaaRWf
namespace Go.Proofs.Ytfgbhhkmdeljoaa
open Go.RowKit

theorem laws_eqBraid (n n' : Int) (xs ys : List Int) (A B : Option Addr) (c c' : Nat) (w : World) (h : Ints w A xs) (h' : Ints w B ys) (hl : xs.length ≤ 9223372036854775807) (hl' : ys.length ≤ 9223372036854775807) :
    Calls Try.prog 43 #[.agg #[.int .i64 n, .slice A xs.length c], .agg #[.int .i64 n', .slice B ys.length c']] w fun e w' => e = .returned (.bool (decide (n = n' ∧ xs = ys))) ∧ Below w.heap.size w w' := by
  by_cases hd : n = n'
  · subst hd
    go_enter Try.func43, Try.ntmps43
    go_wp2_with (fail)
    refine (laws_eqInt64S' A B _ _ xs ys _ (h.below ?hb1) (h'.below ?hb2) hl hl').mono ?_
    case hb1 => (repeat (first | exact Below.refl _ _ | assumption | apply Below.drew | apply below_drewN | (refine Below.alloc ?_ (by first | omega | (simp; done) | (simp; omega)) _) | (refine Below.setCell ?_ (by first | omega | (simp; done) | (simp; omega)) _)))
    case hb2 => (repeat (first | exact Below.refl _ _ | assumption | apply Below.drew | apply below_drewN | (refine Below.alloc ?_ (by first | omega | (simp; done) | (simp; omega)) _) | (refine Below.setCell ?_ (by first | omega | (simp; done) | (simp; omega)) _)))
    rintro e w2 ⟨rfl, b2⟩
    have b3 : Below w.heap.size w w2 := Below.trans (by (repeat (first | exact Below.refl _ _ | assumption | apply Below.drew | apply below_drewN | (refine Below.alloc ?_ (by first | omega | (simp; done) | (simp; omega)) _) | (refine Below.setCell ?_ (by first | omega | (simp; done) | (simp; omega)) _)))) (b2.mono (by first | omega | (simp; done) | (simp; omega)))
    generalize hq : decide (xs = ys) = q
    have HQ := Lib.hid hq; clear hq
    cases q
    · go_wp2_with (fail)
      go_ret
      exact ⟨ret_bool (by have := HQ.out; simpa using this), b3⟩
    · go_wp2_with (fail)
      go_ret
      exact ⟨ret_bool (by have := HQ.out; simpa using this), b3⟩
  · have hd' : (n != n') = true := by simpa using hd
    go_enter Try.func43, Try.ntmps43
    go_wp2_with (fail)
    go_ret
    exact ⟨ret_bool (by simp [hd]), by (repeat (first | exact Below.refl _ _ | assumption | apply Below.drew | apply below_drewN | (refine Below.alloc ?_ (by first | omega | (simp; done) | (simp; omega)) _) | (refine Below.setCell ?_ (by first | omega | (simp; done) | (simp; omega)) _)))⟩

theorem laws_markBraid (n : Int) (xs : List Int) (A : Option Addr) (c : Nat) (k0 : Int) (lo hi : Nat) (w : World) (h : OwnI w lo hi A c xs) (hk0 : 0 ≤ k0) (hk1 : k0 + (xs.length : Nat) ≤ 1000000000000) :
    Calls Try.prog 44 #[.agg #[.int .i64 n, .slice A xs.length c], .int .i64 k0] w fun e w' => e = .returned (.int .i64 (k0 + (xs.length : Nat))) ∧ OwnC w' lo hi 2 1 A xs.length c ((marksI k0 xs.length).map (Value.int .i64)) ∧ Upd lo hi w w' := by
  go_enter Try.func44, Try.ntmps44
  go_wp2_with (fail)
  refine (laws_markInt64S A c xs k0 lo hi _ (h.alloc _) hk0 hk1).mono ?_
  rintro e w1 ⟨rfl, o1, u1⟩
  go_wp2_with (fail)
  go_ret
  exact ⟨rfl, o1, (upd_alloc w _ lo hi).trans u1⟩

theorem laws_heldBraid (n : Int) (A : Option Addr) (c : Nat) (xs : List Int) (k0 : Int) (w : World) (h : Ints w A (marksI k0 xs.length)) (hk0 : 0 ≤ k0) (hk1 : k0 + (xs.length : Nat) ≤ 1000000000000) (_hl : xs.length ≤ 1000000000000) :
    Calls Try.prog 45 #[.agg #[.int .i64 n, .slice A xs.length c], .int .i64 k0] w fun e w' => e = .returned (.int .i64 (k0 + (xs.length : Nat))) ∧ Below w.heap.size w w' := by
  have hd : decide (k0 + ((xs.length : Nat) : Int) < 0) = false := decide_eq_false (by omega)
  go_enter Try.func45, Try.ntmps45
  go_wp2_with (fail)
  refine (laws_heldInt64S A c xs.length k0 _ (h.below (by (repeat (first | exact Below.refl _ _ | assumption | apply Below.drew | apply below_drewN | (refine Below.alloc ?_ (by first | omega | (simp; done) | (simp; omega)) _) | (refine Below.setCell ?_ (by first | omega | (simp; done) | (simp; omega)) _))))) hk0 hk1 ).mono ?_
  rintro e _ ⟨rfl, rfl⟩
  go_wp2_with (fail)
  go_ret
  exact ⟨rfl, by (repeat (first | exact Below.refl _ _ | assumption | apply Below.drew | apply below_drewN | (refine Below.alloc ?_ (by first | omega | (simp; done) | (simp; omega)) _) | (refine Below.setCell ?_ (by first | omega | (simp; done) | (simp; omega)) _)))⟩

theorem laws_szChart (n : Int) (xs : List RowD) (A : Option Addr) (c : Nat) (l : Int) (w : World) (h : RowsR w A xs) (hl : xs.length ≤ 9223372036854775807) (h0 : 0 ≤ l) (h1 : l ≤ 1048576) :
    Calls Try.prog 14 #[.agg #[.int .i64 n, .slice A xs.length c], .int .i64 l] w fun e w' => e = .returned (.int .i64 (szLeft l (sizeRows xs : Nat))) ∧ Below w.heap.size w w' := by
  by_cases hz : l < (sizeRows xs : Nat)
  · have hz' : szLeft l (sizeRows xs : Nat) = -1 := by rw [szLeft, if_pos hz]
    go_enter Try.func14, Try.ntmps14
    go_wp2_with (fail)
    refine (laws_szRowS _ _ _ _ _ (h.below (by (repeat (first | exact Below.refl _ _ | assumption | apply Below.drew | apply below_drewN | (refine Below.alloc ?_ (by first | omega | (simp; done) | (simp; omega)) _) | (refine Below.setCell ?_ (by first | omega | (simp; done) | (simp; omega)) _))))) hl h0 h1).mono ?_; rintro e w2 ⟨rfl, b2⟩
    go_wp2_with (fail)
    go_ret
    exact ⟨ret_int hz'.symm, (Below.trans (by (repeat (first | exact Below.refl _ _ | assumption | apply Below.drew | apply below_drewN | (refine Below.alloc ?_ (by first | omega | (simp; done) | (simp; omega)) _) | (refine Below.setCell ?_ (by first | omega | (simp; done) | (simp; omega)) _)))) (b2.mono (by first | omega | (simp; done) | (simp; omega))))⟩
  · have hz' : szLeft l (sizeRows xs : Nat) = l - (sizeRows xs : Nat) := by rw [szLeft, if_neg hz]
    have hd : decide (l - ((sizeRows xs : Nat) : Int) < 0) = false := decide_eq_false (by omega)
    go_enter Try.func14, Try.ntmps14
    go_wp2_with (fail)
    refine (laws_szRowS _ _ _ _ _ (h.below (by (repeat (first | exact Below.refl _ _ | assumption | apply Below.drew | apply below_drewN | (refine Below.alloc ?_ (by first | omega | (simp; done) | (simp; omega)) _) | (refine Below.setCell ?_ (by first | omega | (simp; done) | (simp; omega)) _))))) hl h0 h1).mono ?_; rintro e w2 ⟨rfl, b2⟩
    go_wp2_with (fail)
    go_ret
    exact ⟨ret_int hz'.symm, (Below.trans (by (repeat (first | exact Below.refl _ _ | assumption | apply Below.drew | apply below_drewN | (refine Below.alloc ?_ (by first | omega | (simp; done) | (simp; omega)) _) | (refine Below.setCell ?_ (by first | omega | (simp; done) | (simp; omega)) _)))) (b2.mono (by first | omega | (simp; done) | (simp; omega))))⟩

theorem laws_toChart (n : Int) (xs : List RowD) (A : Option Addr) (c : Nat) (w : World) (h : RowsR w A xs) (hl : sizeRows xs ≤ 1048576) :
    Calls Try.prog 16 #[.agg #[.int .i64 n, .slice A xs.length c]] w fun e w' => ∃ A' c', e = .returned (.agg #[.int .i64 n, .slice A' xs.length c']) ∧ OwnRows w' w.heap.size w'.heap.size A' xs.length c' xs ∧ Below w.heap.size w w' := by
  go_enter Try.func16, Try.ntmps16
  go_wp2_with (fail)
  refine (laws_toRowS xs A c _ (h.below ?hb) hl).mono ?_
  case hb => (repeat (first | exact Below.refl _ _ | assumption | apply Below.drew | apply below_drewN | (refine Below.alloc ?_ (by first | omega | (simp; done) | (simp; omega)) _) | (refine Below.setCell ?_ (by first | omega | (simp; done) | (simp; omega)) _)))
  rintro e w1 ⟨A1, c1, rfl, o1, b1⟩
  simp only [World.size_alloc] at o1 b1
  obtain ⟨hc, hf⟩ := bcell b1
  go_wp2_with (fail)
  refine bodyPost_ret (v := .agg #[.int .i64 n, .slice A1 xs.length c1]) (by simp [results, Try.results16, go_sem, hc]) rfl ⟨A1, c1, rfl, ?_, ?_⟩
  · refine OwnRows.mono (lo := w.heap.size + 1 + 1 + 1) (hi := w1.heap.size) ?_ (by first | omega | (simp; done) | (simp; omega)) (by first | omega | (simp; done) | (simp; omega))
    repeat (first | assumption | (refine OwnRows.far ?_ (by first | omega | (simp; done) | (simp; omega)) _))
  · have b2 : Below w.heap.size w w1 := Below.trans (by (repeat (first | exact Below.refl _ _ | assumption | apply Below.drew | apply below_drewN | (refine Below.alloc ?_ (by first | omega | (simp; done) | (simp; omega)) _) | (refine Below.setCell ?_ (by first | omega | (simp; done) | (simp; omega)) _)))) (b1.mono (by first | omega | (simp; done) | (simp; omega)))
    (repeat (first | exact Below.refl _ _ | assumption | apply Below.drew | apply below_drewN | (refine Below.alloc ?_ (by first | omega | (simp; done) | (simp; omega)) _) | (refine Below.setCell ?_ (by first | omega | (simp; done) | (simp; omega)) _)))

theorem laws_eqChart (n n' : Int) (xs ys : List RowD) (A B : Option Addr) (c c' : Nat) (w : World) (h : RowsR w A xs) (h' : RowsR w B ys) (hl : xs.length ≤ 1000000000000) (hl' : ys.length ≤ 1000000000000) :
    Calls Try.prog 18 #[.agg #[.int .i64 n, .slice A xs.length c], .agg #[.int .i64 n', .slice B ys.length c']] w fun e w' => e = .returned (.bool (decide (n = n' ∧ xs = ys))) ∧ Below w.heap.size w w' := by
  by_cases hd : n = n'
  · subst hd
    go_enter Try.func18, Try.ntmps18
    go_wp2_with (fail)
    refine (laws_eqRowS xs ys A B _ _ _ (h.below ?hb1) (h'.below ?hb2) hl hl').mono ?_
    case hb1 => (repeat (first | exact Below.refl _ _ | assumption | apply Below.drew | apply below_drewN | (refine Below.alloc ?_ (by first | omega | (simp; done) | (simp; omega)) _) | (refine Below.setCell ?_ (by first | omega | (simp; done) | (simp; omega)) _)))
    case hb2 => (repeat (first | exact Below.refl _ _ | assumption | apply Below.drew | apply below_drewN | (refine Below.alloc ?_ (by first | omega | (simp; done) | (simp; omega)) _) | (refine Below.setCell ?_ (by first | omega | (simp; done) | (simp; omega)) _)))
    rintro e w2 ⟨rfl, b2⟩
    have b3 : Below w.heap.size w w2 := Below.trans (by (repeat (first | exact Below.refl _ _ | assumption | apply Below.drew | apply below_drewN | (refine Below.alloc ?_ (by first | omega | (simp; done) | (simp; omega)) _) | (refine Below.setCell ?_ (by first | omega | (simp; done) | (simp; omega)) _)))) (b2.mono (by first | omega | (simp; done) | (simp; omega)))
    generalize hq : decide (xs = ys) = q
    have HQ := Lib.hid hq; clear hq
    cases q
    · go_wp2_with (fail)
      go_ret
      exact ⟨ret_bool (by have := HQ.out; simpa using this), b3⟩
    · go_wp2_with (fail)
      go_ret
      exact ⟨ret_bool (by have := HQ.out; simpa using this), b3⟩
  · have hd' : (n != n') = true := by simpa using hd
    go_enter Try.func18, Try.ntmps18
    go_wp2_with (fail)
    go_ret
    exact ⟨ret_bool (by simp [hd]), by (repeat (first | exact Below.refl _ _ | assumption | apply Below.drew | apply below_drewN | (refine Below.alloc ?_ (by first | omega | (simp; done) | (simp; omega)) _) | (refine Below.setCell ?_ (by first | omega | (simp; done) | (simp; omega)) _)))⟩

theorem laws_markChart (n : Int) (xs : List RowD) (A : Option Addr) (c : Nat) (k0 : Int) (lo hi : Nat) (w : World) (h : OwnRows w lo hi A xs.length c xs) (hk0 : 0 ≤ k0) (hk1 : k0 + (cntRows xs : Nat) ≤ 1000000000000) :
    Calls Try.prog 22 #[.agg #[.int .i64 n, .slice A xs.length c], .int .i64 k0] w fun e w' => e = .returned (.int .i64 (k0 + (cntRows xs : Nat))) ∧ OwnRows w' lo hi A xs.length c (marksRows k0 xs) ∧ Upd lo hi w w' := by
  go_enter Try.func22, Try.ntmps22
  go_wp2_with (fail)
  refine (laws_markRowS xs A c k0 lo hi _ (h.alloc _) hk0 hk1).mono ?_
  rintro e w1 ⟨rfl, o1, u1⟩
  go_wp2_with (fail)
  go_ret
  exact ⟨rfl, o1, (upd_alloc w _ lo hi).trans u1⟩

theorem laws_heldChart (n : Int) (A : Option Addr) (c : Nat) (xs : List RowD) (k0 : Int) (w : World) (h : RowsR w A (marksRows k0 xs)) (hk0 : 0 ≤ k0) (hk1 : k0 + (cntRows xs : Nat) ≤ 1000000000000) (hl : xs.length ≤ 1000000000000) :
    Calls Try.prog 32 #[.agg #[.int .i64 n, .slice A xs.length c], .int .i64 k0] w fun e w' => e = .returned (.int .i64 (k0 + (cntRows xs : Nat))) ∧ Below w.heap.size w w' := by
  have hd : decide (k0 + ((cntRows xs : Nat) : Int) < 0) = false := decide_eq_false (by omega)
  go_enter Try.func32, Try.ntmps32
  go_wp2_with (fail)
  refine (laws_heldRowS A c xs k0 _ (h.below (by (repeat (first | exact Below.refl _ _ | assumption | apply Below.drew | apply below_drewN | (refine Below.alloc ?_ (by first | omega | (simp; done) | (simp; omega)) _) | (refine Below.setCell ?_ (by first | omega | (simp; done) | (simp; omega)) _))))) hk0 hk1 hl).mono ?_
  rintro e _ ⟨rfl, rfl⟩
  go_wp2_with (fail)
  go_ret
  exact ⟨rfl, by (repeat (first | exact Below.refl _ _ | assumption | apply Below.drew | apply below_drewN | (refine Below.alloc ?_ (by first | omega | (simp; done) | (simp; omega)) _) | (refine Below.setCell ?_ (by first | omega | (simp; done) | (simp; omega)) _)))⟩

end Go.Proofs.Ytfgbhhkmdeljoaa
