/- PackLetters. -/
import Derived.Test.YtfgbhhkmdeljoaaPKi
namespace Go.Proofs.Ytfgbhhkmdeljoaa
open Go.RowKit


end Go.Proofs.Ytfgbhhkmdeljoaa
