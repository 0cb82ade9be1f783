/- SameColours. -/
import Derived.Test.YtfgbhhkmdeljoaaCC
namespace Go.Proofs.Ytfgbhhkmdeljoaa
open Go.RowKit

theorem Drawn.trans {a b c : World} (h : Drawn a b) (k : Drawn b c) : Drawn a c := by
  obtain ⟨n, rfl⟩ := k
  exact h.drewN n


end Go.Proofs.Ytfgbhhkmdeljoaa
