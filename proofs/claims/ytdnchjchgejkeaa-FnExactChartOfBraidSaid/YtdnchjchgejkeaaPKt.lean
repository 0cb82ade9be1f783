/- PackLetters. -/
import Derived.Test.YtdnchjchgejkeaaPKi
namespace Go.Proofs.Ytdnchjchgejkeaa
open Go.RowKit

theorem spec_PackLetters (n : Int) (xs : List Int) (A : Option Addr) (c : Nat) (w : World) (h : Ints w A xs) (hl : xs.length ≤ 9223372036854775807) :
    Calls Try.prog 22 #[.agg #[.int .i64 n, .slice A xs.length c]] w fun e w' => ∃ A' c', e = .returned (.tuple #[.slice A' (packP n xs).length c', .bool (braidB n xs)]) ∧ OwnII w' w.heap.size w'.heap.size A' (packP n xs).length c' (packP n xs) ∧ Below w.heap.size w w' := by
  by_cases hv : braidB n xs = true
  · have HF : Hid (packP n xs = pack xs ∧ braidB n xs = true) := Lib.hid ⟨by rw [packP, if_pos hv], hv⟩
    have hv4 := (braidB_of hv).2.2.1
    go_enter Try.func22, Try.ntmps22
    go_wp2_with (fail)
    refine (spec_l03Ok _ _ n A c xs _ (h.below (by (repeat (first | exact Below.refl _ _ | assumption | apply Below.drew | apply below_drewN | (refine Below.alloc ?_ (by first | omega | (simp; done) | (simp; omega)) _) | (refine Below.setCell ?_ (by first | omega | (simp; done) | (simp; omega)) _))))) hl (by simp) (by simp)).mono ?_; rintro e w2 ⟨rfl, hdr⟩
    have hz : w2.heap.size = w.heap.size + 1 := by obtain ⟨q, rfl⟩ := hdr; simp
    have b2 : Below w.heap.size w w2 := by obtain ⟨q, rfl⟩ := hdr; (repeat (first | exact Below.refl _ _ | assumption | apply Below.drew | apply below_drewN | (refine Below.alloc ?_ (by first | omega | (simp; done) | (simp; omega)) _) | (refine Below.setCell ?_ (by first | omega | (simp; done) | (simp; omega)) _)))
    have k2 : Blk w2 w.heap.size 36 #[.int .i64 n, .slice A xs.length c] := by obtain ⟨q, rfl⟩ := hdr; exact (Blk.new _ _ _).drewN q
    clear hdr
    obtain ⟨s0, s1⟩ := k2.c2
    have HZ := Lib.hid hz; clear hz
    have HV := Lib.hid hv
    go_wp2_with (fail)
    refine (spec_l18Pack A c xs _ (h.below b2) (by omega) (smallB_of HV.out)).mono ?_; rintro e w3 ⟨A3, c3, rfl, o3, b3⟩
    go_wp2_with (fail)
    go_ret2
    have hz := HZ.out
    rw [HF.out.1, HF.out.2]
    exact ⟨_, _, rfl, o3.mono (by omega) (Nat.le_refl _), b2.trans (b3.mono (by omega))⟩
  · have hv' : braidB n xs = false := by simpa using hv
    have HF : Hid (packP n xs = [] ∧ braidB n xs = false) := Lib.hid ⟨by rw [packP, if_neg hv], hv'⟩
    clear hv
    go_enter Try.func22, Try.ntmps22
    go_wp2_with (fail)
    refine (spec_l03Ok _ _ n A c xs _ (h.below (by (repeat (first | exact Below.refl _ _ | assumption | apply Below.drew | apply below_drewN | (refine Below.alloc ?_ (by first | omega | (simp; done) | (simp; omega)) _) | (refine Below.setCell ?_ (by first | omega | (simp; done) | (simp; omega)) _))))) hl (by simp) (by simp)).mono ?_; rintro e w2 ⟨rfl, q, rfl⟩
    go_wp2_with (fail)
    go_ret2
    rw [HF.out.1, HF.out.2]
    exact ⟨_, _, rfl, ⟨[], OwnC.nil _ _ _ _ _, ⟨rfl, fun k xs hx => by simp at hx, fun i j v v' g hi' => by simp at hi'⟩⟩, by (repeat (first | exact Below.refl _ _ | assumption | apply Below.drew | apply below_drewN | (refine Below.alloc ?_ (by first | omega | (simp; done) | (simp; omega)) _) | (refine Below.setCell ?_ (by first | omega | (simp; done) | (simp; omega)) _)))⟩

theorem impl_PackLetters (n : Int) (xs : List Int) (A : Option Addr) (c : Nat) (w : World) (h : Ints w A xs) (hl : xs.length ≤ 9223372036854775807) :
    Calls Try.prog 24 #[.agg #[.int .i64 n, .slice A xs.length c]] w fun e w' => ∃ A' c', e = .returned (.tuple #[.slice A' (packP n xs).length c', .bool (braidB n xs)]) ∧ OwnII w' w.heap.size w'.heap.size A' (packP n xs).length c' (packP n xs) ∧ Below w.heap.size w w' := by
  by_cases hv : braidB n xs = true
  · have HF : Hid (packP n xs = pack xs ∧ braidB n xs = true) := Lib.hid ⟨by rw [packP, if_pos hv], hv⟩
    have hv4 := (braidB_of hv).2.2.1
    have HV := Lib.hid hv
    go_enter Try.func24, Try.ntmps24
    go_wp2_with (fail)
    refine (impl_ValidBraid n xs A c _ (h.below (by (repeat (first | exact Below.refl _ _ | assumption | apply Below.drew | apply below_drewN | (refine Below.alloc ?_ (by first | omega | (simp; done) | (simp; omega)) _) | (refine Below.setCell ?_ (by first | omega | (simp; done) | (simp; omega)) _))))) hl).mono ?_; rintro e w2 ⟨rfl, b2'⟩
    have b2 : Below w.heap.size w w2 := Below.trans (by (repeat (first | exact Below.refl _ _ | assumption | apply Below.drew | apply below_drewN | (refine Below.alloc ?_ (by first | omega | (simp; done) | (simp; omega)) _) | (refine Below.setCell ?_ (by first | omega | (simp; done) | (simp; omega)) _)))) (b2'.mono (by first | omega | (simp; done) | (simp; omega)))
    have k2 : Blk w2 w.heap.size 36 #[.int .i64 n, .slice A xs.length c] := (Blk.new _ _ _).below b2' (by first | omega | (simp; done) | (simp; omega))
    have z2 := b2'.size
    simp only [World.size_alloc] at z2
    clear b2'
    obtain ⟨s0, s1⟩ := k2.c2
    go_wp2_with (fail)
    refine (impl_packed A c xs _ (h.below b2) (by omega) (smallB_of HV.out)).mono ?_; rintro e w3 ⟨A3, c3, rfl, o3, b3⟩
    go_wp2_with (fail)
    go_ret2
    rw [HF.out.1, HF.out.2]
    exact ⟨_, _, rfl, o3.mono (by omega) (Nat.le_refl _), b2.trans (b3.mono (by omega))⟩
  · have hv' : braidB n xs = false := by simpa using hv
    have HF : Hid (packP n xs = [] ∧ braidB n xs = false) := Lib.hid ⟨by rw [packP, if_neg hv], hv'⟩
    clear hv
    go_enter Try.func24, Try.ntmps24
    go_wp2_with (fail)
    refine (impl_ValidBraid n xs A c _ (h.below (by (repeat (first | exact Below.refl _ _ | assumption | apply Below.drew | apply below_drewN | (refine Below.alloc ?_ (by first | omega | (simp; done) | (simp; omega)) _) | (refine Below.setCell ?_ (by first | omega | (simp; done) | (simp; omega)) _))))) hl).mono ?_; rintro e w2 ⟨rfl, b2'⟩
    have b2 : Below w.heap.size w w2 := Below.trans (by (repeat (first | exact Below.refl _ _ | assumption | apply Below.drew | apply below_drewN | (refine Below.alloc ?_ (by first | omega | (simp; done) | (simp; omega)) _) | (refine Below.setCell ?_ (by first | omega | (simp; done) | (simp; omega)) _)))) (b2'.mono (by first | omega | (simp; done) | (simp; omega)))
    go_wp2_with (fail)
    go_ret2
    rw [HF.out.1, HF.out.2]
    exact ⟨_, _, rfl, ⟨[], OwnC.nil _ _ _ _ _, ⟨rfl, fun k xs hx => by simp at hx, fun i j v v' g hi' => by simp at hi'⟩⟩, b2⟩

end Go.Proofs.Ytdnchjchgejkeaa
