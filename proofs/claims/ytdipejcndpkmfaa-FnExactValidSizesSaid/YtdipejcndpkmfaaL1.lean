/- The walks of the laws. -/
import Derived.Test.YtdipejcndpkmfaaA
namespace Go.Proofs.Ytdipejcndpkmfaa
open Go.RowKit

theorem law_FnExactValidSizes (A : Option Addr) (c : Nat) (xs : List Int) (w : World) (h : Ints w A xs) (hl : xs.length ≤ 9223372036854775807) : Calls Try.prog 3 #[.slice A xs.length c] w fun e w' => e = .returned (.bool true) ∧ Below w.heap.size w w' := by
  by_cases hle : xs.length ≤ 1048576
  · have hle' : decide ((xs.length : Int) > 1048576) = false := by simp; omega
    go_enter Try.func3, Try.ntmps3
    go_wp2_with (fail)
    refine (laws_toInt64S _ _ _ _ h hle).mono ?_; rintro e w1 ⟨A1, c1, rfl, o1, b1⟩
    go_wp2_with (fail)
    refine (spec_ValidSizes _ _ _ _ o1.ints hl).mono ?_; rintro e _ ⟨rfl, rfl⟩
    go_wp2_with (fail)
    refine (laws_toInt64S _ _ _ _ (h.below b1) hle).mono ?_; rintro e w2 ⟨A2, c2, rfl, o2, b2⟩
    have b2' := b1.trans (b2.mono b1.size)
    go_wp2_with (fail)
    refine (impl_ValidSizes _ _ _ _ o2.ints hl).mono ?_; rintro e _ ⟨rfl, rfl⟩
    go_wp2_with (fail)
    refine (laws_toInt64S _ _ _ _ (h.below b2') hle).mono ?_; rintro e w3 ⟨A3, c3, rfl, o3, b3⟩
    have b3' := b2'.trans (b3.mono b2'.size)
    go_wp2_with (fail)
    refine (laws_eqInt64S _ _ _ _ _ _ _ (o2.ints.below b3) o3.ints hl hl).mono ?_; rintro e _ ⟨rfl, n3, rfl⟩
    go_wp2_with (fail)
    go_ret
    exact ⟨rfl, below_drewN b3' _⟩
  · have hle' : decide ((xs.length : Int) > 1048576) = true := by simp; omega
    go_enter Try.func3, Try.ntmps3
    go_wp2_with (fail)
    go_ret
    exact ⟨rfl, Below.refl _ _⟩

end Go.Proofs.Ytdipejcndpkmfaa
