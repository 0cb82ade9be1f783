/- ValidPieces, the program's function. -/
import Derived.Test.YtfgbhhkmdeljoaaVQ
namespace Go.Proofs.Ytfgbhhkmdeljoaa
open Go.RowKit

theorem OwnC.capmax {w : World} {lo hi : Nat} {e : TypeId} {sz : Nat} {A : Option Addr} {n c : Nat} {cs : List Value} (h : OwnC w lo hi e sz A n c cs) : c ≤ 9223372036854775807 := by
  rcases h.form with ⟨_, _, h1, _⟩ | ⟨_, _, _, _, _, _, _, h1, _⟩
  · omega
  · unfold maxLen at h1; omega


end Go.Proofs.Ytfgbhhkmdeljoaa
