/- The hand knitter's questions: FirstOf, ColumnAt. -/
import Derived.Test.YtfgbhhkmdeljoaaA
namespace Go.Proofs.Ytfgbhhkmdeljoaa
open Go.RowKit

theorem Ints.take {w : World} {A : Option Addr} {xs : List Int} (h : Ints w A xs) (n : Nat) : Ints w A (xs.take n) := by
  intro k hk
  obtain ⟨b, off, x, hA, hc, hx⟩ := h k (by rw [List.length_take] at hk; omega)
  exact ⟨b, off, x, hA, hc, by rw [List.getElem?_take, if_pos (by rw [List.length_take] at hk; omega)]; exact hx⟩


end Go.Proofs.Ytfgbhhkmdeljoaa
