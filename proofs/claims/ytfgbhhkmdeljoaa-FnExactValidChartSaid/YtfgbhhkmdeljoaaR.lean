/- Rows: the helpers of the laws. -/
import Derived.Test.YtfgbhhkmdeljoaaA
namespace Go.Proofs.Ytfgbhhkmdeljoaa
open Go.RowKit

theorem bcell {B : Nat} {W w1 : World} (hb : Below B W w1) : (∀ b o, b < B → w1.cell? ⟨b, o, none⟩ = W.cell? ⟨b, o, none⟩) ∧ (∀ b o, b < B → w1.frozen? ⟨b, o, none⟩ = W.frozen? ⟨b, o, none⟩) :=
  ⟨fun b o h => hb.cell (p := ⟨b, o, none⟩) h, fun b o h => hb.frozen (p := ⟨b, o, none⟩) h⟩

theorem laws_toRow (d r : Int) (A : Option Addr) (c : Nat) (xs : List Int) (w : World) (h : Ints w A xs) (hl : xs.length ≤ 1048576) :
    Calls Try.prog 48 #[.agg #[.int .i64 d, .int .i64 r, .slice A xs.length c]] w fun e w' => ∃ A' c', e = .returned (.agg #[.int .i64 d, .int .i64 r, .slice A' xs.length c']) ∧ OwnI w' w.heap.size w'.heap.size A' c' xs ∧ Below w.heap.size w w' := by
  go_enter Try.func48, Try.ntmps48
  go_wp2_with (fail)
  refine (laws_toInt64S A c xs _ (Ints.below h ?hb) hl).mono ?_
  case hb => (repeat (first | exact Below.refl _ _ | assumption | apply Below.drew | apply below_drewN | (refine Below.alloc ?_ (by first | omega | (simp; done) | (simp; omega)) _) | (refine Below.setCell ?_ (by first | omega | (simp; done) | (simp; omega)) _)))
  rintro e w1 ⟨A1, c1, rfl, o1, b1⟩
  simp only [World.size_alloc] at o1 b1
  obtain ⟨hc, hf⟩ := bcell b1
  go_wp2_with (fail)
  refine bodyPost_ret (v := .agg #[.int .i64 d, .int .i64 r, .slice A1 xs.length c1]) (by simp [results, Try.results48, go_sem, hc]) rfl ⟨A1, c1, rfl, ?_, ?_⟩
  · refine OwnC.mono (lo := w.heap.size + 1 + 1 + 1) (hi := w1.heap.size) ?_ (by first | omega | (simp; done) | (simp; omega)) (by first | omega | (simp; done) | (simp; omega))
    (repeat (first | assumption | (refine OwnC.far ?_ (by first | omega | (simp; done) | (simp; omega)) _) | apply OwnC.alloc | apply OwnC.drewN))
  · have b2 : Below w.heap.size w w1 := Below.trans (by (repeat (first | exact Below.refl _ _ | assumption | apply Below.drew | apply below_drewN | (refine Below.alloc ?_ (by first | omega | (simp; done) | (simp; omega)) _) | (refine Below.setCell ?_ (by first | omega | (simp; done) | (simp; omega)) _)))) (b1.mono (by first | omega | (simp; done) | (simp; omega)))
    (repeat (first | exact Below.refl _ _ | assumption | apply Below.drew | apply below_drewN | (refine Below.alloc ?_ (by first | omega | (simp; done) | (simp; omega)) _) | (refine Below.setCell ?_ (by first | omega | (simp; done) | (simp; omega)) _)))

theorem laws_szRow (d r : Int) (A : Option Addr) (n c : Nat) (l : Int) (w : World) (hl : n ≤ 9223372036854775807) (h0 : 0 ≤ l) (h1 : l ≤ 1048576) :
    Calls Try.prog 46 #[.agg #[.int .i64 d, .int .i64 r, .slice A n c], .int .i64 l] w fun e w' => e = .returned (.int .i64 (szLeft l n)) ∧ Below w.heap.size w w' := by
  by_cases h : l < n
  · have hz : szLeft l n = -1 := by rw [szLeft, if_pos h]
    go_enter Try.func46, Try.ntmps46
    go_wp2_with (refine (laws_szInt64S _ _ _ _ _ hl h0 h1).mono ?_; rintro e _ ⟨rfl, rfl⟩)
    go_ret
    exact ⟨ret_int hz.symm, by (repeat (first | exact Below.refl _ _ | assumption | apply Below.drew | apply below_drewN | (refine Below.alloc ?_ (by first | omega | (simp; done) | (simp; omega)) _) | (refine Below.setCell ?_ (by first | omega | (simp; done) | (simp; omega)) _)))⟩
  · have hz : szLeft l n = l - n := by rw [szLeft, if_neg h]
    go_enter Try.func46, Try.ntmps46
    go_wp2_with (refine (laws_szInt64S _ _ _ _ _ hl h0 h1).mono ?_; rintro e _ ⟨rfl, rfl⟩)
    go_ret
    exact ⟨ret_int hz.symm, by (repeat (first | exact Below.refl _ _ | assumption | apply Below.drew | apply below_drewN | (refine Below.alloc ?_ (by first | omega | (simp; done) | (simp; omega)) _) | (refine Below.setCell ?_ (by first | omega | (simp; done) | (simp; omega)) _)))⟩

theorem laws_eqRow (d r d' r' : Int) (A B : Option Addr) (c c' : Nat) (xs ys : List Int) (w : World) (h : Ints w A xs) (h' : Ints w B ys) (hl : xs.length ≤ 9223372036854775807) (hl' : ys.length ≤ 9223372036854775807) :
    Calls Try.prog 51 #[.agg #[.int .i64 d, .int .i64 r, .slice A xs.length c], .agg #[.int .i64 d', .int .i64 r', .slice B ys.length c']] w fun e w' =>
      e = .returned (.bool (decide (d = d' ∧ r = r' ∧ xs = ys))) ∧ Below w.heap.size w w' := by
  by_cases hd : d = d'
  · subst hd
    by_cases hr : r = r'
    · subst hr
      go_enter Try.func51, Try.ntmps51
      go_wp2_with (fail)
      refine (laws_eqInt64S A B _ _ xs ys _ (Ints.below h ?hb1) (Ints.below h' ?hb2) hl hl').mono ?_
      case hb1 => (repeat (first | exact Below.refl _ _ | assumption | apply Below.drew | apply below_drewN | (refine Below.alloc ?_ (by first | omega | (simp; done) | (simp; omega)) _) | (refine Below.setCell ?_ (by first | omega | (simp; done) | (simp; omega)) _)))
      case hb2 => (repeat (first | exact Below.refl _ _ | assumption | apply Below.drew | apply below_drewN | (refine Below.alloc ?_ (by first | omega | (simp; done) | (simp; omega)) _) | (refine Below.setCell ?_ (by first | omega | (simp; done) | (simp; omega)) _)))
      rintro e _ ⟨rfl, n, rfl⟩
      generalize hq : decide (xs = ys) = q
      have HQ := Lib.hid hq; clear hq
      cases q
      · go_wp2_with (fail)
        go_ret
        exact ⟨ret_bool (by have := HQ.out; simpa using this), by (repeat (first | exact Below.refl _ _ | assumption | apply Below.drew | apply below_drewN | (refine Below.alloc ?_ (by first | omega | (simp; done) | (simp; omega)) _) | (refine Below.setCell ?_ (by first | omega | (simp; done) | (simp; omega)) _)))⟩
      · go_wp2_with (fail)
        go_ret
        exact ⟨ret_bool (by have := HQ.out; simpa using this), by (repeat (first | exact Below.refl _ _ | assumption | apply Below.drew | apply below_drewN | (refine Below.alloc ?_ (by first | omega | (simp; done) | (simp; omega)) _) | (refine Below.setCell ?_ (by first | omega | (simp; done) | (simp; omega)) _)))⟩
    · have hr' : (r != r') = true := by simpa using hr
      go_enter Try.func51, Try.ntmps51
      go_wp2_with (fail)
      go_ret
      exact ⟨ret_bool (by simp [hr]), by (repeat (first | exact Below.refl _ _ | assumption | apply Below.drew | apply below_drewN | (refine Below.alloc ?_ (by first | omega | (simp; done) | (simp; omega)) _) | (refine Below.setCell ?_ (by first | omega | (simp; done) | (simp; omega)) _)))⟩
  · have hd' : (d != d') = true := by simpa using hd
    go_enter Try.func51, Try.ntmps51
    go_wp2_with (fail)
    go_ret
    exact ⟨ret_bool (by simp [hd]), by (repeat (first | exact Below.refl _ _ | assumption | apply Below.drew | apply below_drewN | (refine Below.alloc ?_ (by first | omega | (simp; done) | (simp; omega)) _) | (refine Below.setCell ?_ (by first | omega | (simp; done) | (simp; omega)) _)))⟩

theorem spec_l15Row (g o : Nat) (d r : Int) (A : Option Addr) (c : Nat) (xs : List Int) (w : World) (h : Ints w A xs) (hl : xs.length ≤ 9223372036854775807)
    (c0 : w.cell? ⟨g, o, none⟩ = some (.int .i64 d)) (c1 : w.cell? ⟨g, o + 1, none⟩ = some (.int .i64 r)) (c2 : w.cell? ⟨g, o + 2, none⟩ = some (.slice A xs.length c)) :
    Calls Try.prog 80 #[.pointer (some ⟨g, o, none⟩)] w fun e w' => e = .returned (.bool (rowB d r xs)) ∧ w = w' := by
  by_cases hd : dirB d = true
  · have HD := Lib.hid hd
    have hd1 : d = 1 ∨ ¬ d = 1 ∧ (d == -1) = true := by simp [dirB] at hd; by_cases e : d = 1 <;> simp_all
    clear hd
    by_cases hr : carrierB r = true
    · have hr' : inR r 1 4 = true := hr
      rcases hd1 with rfl | ⟨h1, h2⟩
      · go_enter Try.func80, Try.ntmps80
        go_wp2_with (first | (refine (spec_l00In _ _ _ _).mono ?_; rintro e _ ⟨rfl, rfl⟩) | (refine (spec_l14Ok _ _ _ _ h hl).mono ?_; rintro e _ ⟨rfl, rfl⟩))
        go_ret
        exact ⟨ret_bool (by simp [rowB, HD.out, hr]), rfl⟩
      · have h1' : (d == 1) = false := by simpa using h1
        go_enter Try.func80, Try.ntmps80
        go_wp2_with (first | (refine (spec_l00In _ _ _ _).mono ?_; rintro e _ ⟨rfl, rfl⟩) | (refine (spec_l14Ok _ _ _ _ h hl).mono ?_; rintro e _ ⟨rfl, rfl⟩))
        go_ret
        exact ⟨ret_bool (by simp [rowB, HD.out, hr]), rfl⟩
    · have hr' : inR r 1 4 = false := by simpa [carrierB] using hr
      have hr2 : carrierB r = false := hr'
      clear hr
      rcases hd1 with rfl | ⟨h1, h2⟩
      · go_enter Try.func80, Try.ntmps80
        go_wp2_with (first | (refine (spec_l00In _ _ _ _).mono ?_; rintro e _ ⟨rfl, rfl⟩) | (refine (spec_l14Ok _ _ _ _ h hl).mono ?_; rintro e _ ⟨rfl, rfl⟩))
        go_ret
        exact ⟨ret_bool (by simp [rowB, hr2]), rfl⟩
      · have h1' : (d == 1) = false := by simpa using h1
        go_enter Try.func80, Try.ntmps80
        go_wp2_with (first | (refine (spec_l00In _ _ _ _).mono ?_; rintro e _ ⟨rfl, rfl⟩) | (refine (spec_l14Ok _ _ _ _ h hl).mono ?_; rintro e _ ⟨rfl, rfl⟩))
        go_ret
        exact ⟨ret_bool (by simp [rowB, hr2]), rfl⟩
  · have hd' : dirB d = false := by simpa using hd
    have h1 : (d == 1) = false := by simp [dirB] at hd; simpa using hd.1
    have h2 : (d == -1) = false := by simp [dirB] at hd; simpa using hd.2
    clear hd
    go_enter Try.func80, Try.ntmps80
    go_wp2_with (fail)
    go_ret
    exact ⟨ret_bool (by simp [rowB, hd']), rfl⟩

theorem impl_ValidRow (d r : Int) (A : Option Addr) (c : Nat) (xs : List Int) (w : World) (h : Ints w A xs) (hl : xs.length ≤ 9223372036854775807) :
    Calls Try.prog 85 #[.agg #[.int .i64 d, .int .i64 r, .slice A xs.length c]] w fun e w' => e = .returned (.bool (rowB d r xs)) ∧ Below w.heap.size w w' := by
  by_cases hd : dirB d = true
  · by_cases hr : carrierB r = true
    · go_enter Try.func85, Try.ntmps85
      go_wp2_with (fail)
      refine (impl_isDirection _ _).mono ?_; rintro e _ ⟨rfl, rfl⟩
      go_wp2_with (fail)
      refine (impl_isCarrier _ _).mono ?_; rintro e _ ⟨rfl, rfl⟩
      go_wp2_with (fail)
      refine (impl_areStitches A c xs _ (Ints.below h ?hb) hl).mono ?_
      case hb => (repeat (first | exact Below.refl _ _ | assumption | apply Below.drew | apply below_drewN | (refine Below.alloc ?_ (by first | omega | (simp; done) | (simp; omega)) _) | (refine Below.setCell ?_ (by first | omega | (simp; done) | (simp; omega)) _)))
      rintro e _ ⟨rfl, rfl⟩
      go_wp2_with (fail)
      go_ret
      exact ⟨ret_bool (by simp [rowB, hd, hr]), by (repeat (first | exact Below.refl _ _ | assumption | apply Below.drew | apply below_drewN | (refine Below.alloc ?_ (by first | omega | (simp; done) | (simp; omega)) _) | (refine Below.setCell ?_ (by first | omega | (simp; done) | (simp; omega)) _)))⟩
    · have hr' : carrierB r = false := by simpa using hr
      clear hr
      go_enter Try.func85, Try.ntmps85
      go_wp2_with (first | (refine (impl_isDirection _ _).mono ?_; rintro e _ ⟨rfl, rfl⟩) | (refine (impl_isCarrier _ _).mono ?_; rintro e _ ⟨rfl, rfl⟩))
      go_ret
      exact ⟨ret_bool (by simp [rowB, hr']), by (repeat (first | exact Below.refl _ _ | assumption | apply Below.drew | apply below_drewN | (refine Below.alloc ?_ (by first | omega | (simp; done) | (simp; omega)) _) | (refine Below.setCell ?_ (by first | omega | (simp; done) | (simp; omega)) _)))⟩
  · have hd' : dirB d = false := by simpa using hd
    clear hd
    go_enter Try.func85, Try.ntmps85
    go_wp2_with (refine (impl_isDirection _ _).mono ?_; rintro e _ ⟨rfl, rfl⟩)
    go_ret
    exact ⟨ret_bool (by simp [rowB, hd']), by (repeat (first | exact Below.refl _ _ | assumption | apply Below.drew | apply below_drewN | (refine Below.alloc ?_ (by first | omega | (simp; done) | (simp; omega)) _) | (refine Below.setCell ?_ (by first | omega | (simp; done) | (simp; omega)) _)))⟩

end Go.Proofs.Ytfgbhhkmdeljoaa
