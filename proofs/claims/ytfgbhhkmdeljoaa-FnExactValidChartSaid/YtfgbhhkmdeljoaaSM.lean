/- SameChart. -/
import Derived.Test.YtfgbhhkmdeljoaaSC
namespace Go.Proofs.Ytfgbhhkmdeljoaa
open Go.RowKit

theorem cell_alloc {w : World} {a : Addr} {v : Value} (h : w.cell? a = some v) (o : Obj) : (w.alloc o).cell? a = some v := cells_below (by (repeat (first | exact Below.refl _ _ | assumption | apply Below.drew | apply below_drewN | (refine Below.alloc ?_ (by first | omega | (simp; done) | (simp; omega)) _) | (refine Below.setCell ?_ (by first | omega | (simp; done) | (simp; omega)) _)))) _ _ h
def sameChartB (n m : Int) (xs ys : List RowD) : Bool := decide (n = m ∧ xs = ys)


end Go.Proofs.Ytfgbhhkmdeljoaa
