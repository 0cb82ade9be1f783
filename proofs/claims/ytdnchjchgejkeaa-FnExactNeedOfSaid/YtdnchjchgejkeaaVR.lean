/- ValidPieces, the program's function. -/
import Derived.Test.YtdnchjchgejkeaaVQ
namespace Go.Proofs.Ytdnchjchgejkeaa
open Go.RowKit

theorem OwnC.capmax {w : World} {lo hi : Nat} {e : TypeId} {sz : Nat} {A : Option Addr} {n c : Nat} {cs : List Value} (h : OwnC w lo hi e sz A n c cs) : c ≤ 9223372036854775807 := by
  rcases h.form with ⟨_, _, h1, _⟩ | ⟨_, _, _, _, _, _, _, h1, _⟩
  · omega
  · unfold maxLen at h1; omega

theorem impl_ValidPieces (ps : List PieceD) (A : Option Addr) (c : Nat) (w : World) (h : Pieces w A ps) (_hl : ps.length ≤ 9223372036854775807) (hc : ps.length ≤ c) (hcm : c ≤ 9223372036854775807) :
    Calls Try.prog 19 #[.slice A ps.length c] w fun e w' => e = .returned (.bool (piecesB ps)) ∧ Below w.heap.size w w' := by
  by_cases hn : ps.length ≤ 24
  · have HF : Hid (piecesB ps = okP (rangeP 0 ps)) := Lib.hid (by unfold piecesB; rw [decide_eq_true hn, Bool.true_and])
    have hb1 : Below w.heap.size w (w.alloc (.cells #[.int .i64 0] 3)) := by (repeat (first | exact Below.refl _ _ | assumption | apply Below.drew | apply below_drewN | (refine Below.alloc ?_ (by first | omega | (simp; done) | (simp; omega)) _) | (refine Below.setCell ?_ (by first | omega | (simp; done) | (simp; omega)) _)))
    have hI := impl_arePieces w.heap.size w (Nat.le_refl _) ps.length ps A c 0 0 _ (Nat.le_refl _) hn hc hcm h hb1 (Blk.new w 3 #[.int .i64 0]) (by omega) (by omega)
    rw [show ((0 : Nat) : Int) = 0 from rfl] at hI
    have HI := Lib.hid hI; clear hI
    cases hr : rangeP 0 ps with
    | none =>
      rw [hr] at HI HF
      go_enter Try.func19, Try.ntmps19
      go_wp2_with (fail)
      refine (HI.out).mono ?_; rintro e w2 ⟨rfl, u2, _⟩
      have b2 : Below w.heap.size w w2 := hb1.trans (u2.below (by simp))
      go_wp2_with (fail)
      go_ret
      exact ⟨ret_bool HF.out.symm, b2⟩
    | some o =>
      rw [hr] at HI HF
      go_enter Try.func19, Try.ntmps19
      go_wp2_with (fail)
      refine (HI.out).mono ?_; rintro e w2 ⟨rfl, u2, hx⟩
      have b2 : Below w.heap.size w w2 := hb1.trans (u2.below (by simp))
      have s0 := (hx o rfl).c1
      rw [Nat.zero_add] at s0
      clear hx
      go_wp2_with (fail)
      go_ret
      exact ⟨ret_bool (by rw [HF.out]; simp [okP]; omega), b2⟩
  · have HF : Hid (piecesB ps = false) := Lib.hid (by unfold piecesB; rw [decide_eq_false hn, Bool.false_and])
    go_enter Try.func19, Try.ntmps19
    go_wp2_with (fail)
    go_ret
    exact ⟨ret_bool HF.out.symm, by (repeat (first | exact Below.refl _ _ | assumption | apply Below.drew | apply below_drewN | (refine Below.alloc ?_ (by first | omega | (simp; done) | (simp; omega)) _) | (refine Below.setCell ?_ (by first | omega | (simp; done) | (simp; omega)) _)))⟩

end Go.Proofs.Ytdnchjchgejkeaa
