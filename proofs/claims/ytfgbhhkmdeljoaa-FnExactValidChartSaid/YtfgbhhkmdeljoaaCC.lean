/- Colour charts: ValidColours, SameColours. -/
import Derived.Test.YtfgbhhkmdeljoaaS2
namespace Go.Proofs.Ytfgbhhkmdeljoaa
open Go.RowKit

def rowOfB (n : Int) (row : List Int) : Bool := decide ((row.length : Int) = n) && row.all carrierB
def coloursB (n : Int) (xss : List (List Int)) : Bool := inR n 1 8 && inR xss.length 1 8 && xss.all (rowOfB n)
def sameColoursB (n m : Int) (xss yss : List (List Int)) : Bool := decide (n = m ∧ xss = yss)


end Go.Proofs.Ytfgbhhkmdeljoaa
