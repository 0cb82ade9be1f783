/- Calls of functions that change nothing, in regions that draw. -/
import Derived.Test.YtfgbhhkmdeljoaaLib
namespace Go.Proofs.Ytfgbhhkmdeljoaa
open Go.RowKit

theorem quietS {P : Program} {f : FuncId} {args : Array Value} {w : World} {n : Nat} {v : Value}
    (h : Calls P f args (w.drewN n) fun e w' => e = .returned v ∧ w.drewN n = w') : Calls P f args (w.drewN n) fun e w'' => e = .returned v ∧ ∃ m, w'' = w.drewN m :=
  h.mono fun _ _ ⟨he, hm⟩ => ⟨he, n, hm.symm⟩

end Go.Proofs.Ytfgbhhkmdeljoaa
