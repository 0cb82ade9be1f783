/- The plain functions that the program's functions compute, in Lean, with no program in sight. -/
import Derived.Test.YtdipejcndpkmfaaLib
namespace Go.Proofs.Ytdipejcndpkmfaa
open Go.RowKit

def inR (n lo hi : Int) : Bool := decide (lo ≤ n) && decide (n ≤ hi)
theorem inR_iff {n lo hi : Int} : inR n lo hi = true ↔ lo ≤ n ∧ n ≤ hi := by simp [inR]
def szLeft (l n : Int) : Int := if l < n then -1 else l - n
def sum64 (xs : List Int) : Int := xs.foldl (fun s x => wrap64 (s + x)) 0
theorem sum64_snoc (xs : List Int) (x : Int) : sum64 (xs ++ [x]) = wrap64 (sum64 xs + x) := by simp [sum64]
def isStitchB (k : Int) : Bool := inR k 1 11
def stacksB (xs : List Int) : Bool := xs.all (inR · 1 4) && decide (xs.length ≤ 8)
def sizesB (xs : List Int) : Bool := decide (0 < xs.length) && stacksB xs && decide (sum64 xs ≤ 12)
def stitchesB (xs : List Int) : Bool := xs.all isStitchB && decide (xs.length ≤ 16)
def dirB (d : Int) : Bool := d == 1 || d == -1
def carrierB (c : Int) : Bool := inR c 1 4
/-- The index of the first number with p, or -1. -/
def indexB (p : Int → Bool) : List Int → Int → Int
  | [], _ => -1
  | x :: xs, k => if p x then k else indexB p xs (k + 1)
/-- The call hands back a number with P. -/
def AnyInt (P : Int → Prop) (e : Ending) : Prop := ∃ k, e = .returned (.int .i64 k) ∧ P k

end Go.Proofs.Ytdipejcndpkmfaa
