/- The plain functions that the program's functions compute, in Lean, with no program in sight. -/
import Derived.Test.YtfgbhhkmdeljoaaLib
namespace Go.Proofs.Ytfgbhhkmdeljoaa
open Go.RowKit

def inR (n lo hi : Int) : Bool := decide (lo ≤ n) && decide (n ≤ hi)
theorem inR_iff {n lo hi : Int} : inR n lo hi = true ↔ lo ≤ n ∧ n ≤ hi := by simp [inR]
def szLeft (l n : Int) : Int := if l < n then -1 else l - n
def sum64 (xs : List Int) : Int := xs.foldl (fun s x => wrap64 (s + x)) 0
theorem sum64_snoc (xs : List Int) (x : Int) : sum64 (xs ++ [x]) = wrap64 (sum64 xs + x) := by simp [sum64]
def isStitchB (k : Int) : Bool := inR k 1 11
def stacksB (xs : List Int) : Bool := xs.all (inR · 1 4) && decide (xs.length ≤ 8)
def sizesB (xs : List Int) : Bool := decide (0 < xs.length) && stacksB xs && decide (sum64 xs ≤ 12)
def stitchesB (xs : List Int) : Bool := xs.all isStitchB && decide (xs.length ≤ 16)
def dirB (d : Int) : Bool := d == 1 || d == -1
def carrierB (c : Int) : Bool := inR c 1 4
/-- The index of the first number with p, or -1. -/
def indexB (p : Int → Bool) : List Int → Int → Int
  | [], _ => -1
  | x :: xs, k => if p x then k else indexB p xs (k + 1)
/-- The call hands back a number with P. -/
def AnyInt (P : Int → Prop) (e : Ending) : Prop := ∃ k, e = .returned (.int .i64 k) ∧ P k
theorem ret_ib {p : Int × Bool} {a : Int} {b : Bool} (h : p = (a, b)) : Ending.returned (.tuple #[.int .i64 a, .bool b]) = .returned (.tuple #[.int .i64 p.1, .bool p.2]) := by rw [h]
def firstOfP (xs : List Int) (col : Int) : Int × Bool := if sizesB xs && inR col 0 ((xs.length : Int) - 1) then (sum64 (xs.take col.toNat), true) else (0, false)
def colAt : List Int → Int → Int → Int × Bool
  | [], _, _ => (0, false)
  | x :: xs, s, i => if s < x then (i, true) else colAt xs (wrap64 (s - x)) (i + 1)
def columnAtP (xs : List Int) (s : Int) : Int × Bool := if !sizesB xs || decide (s < 0) then (0, false) else colAt xs s 0
theorem drop_cons {α : Type} {xs : List α} {k : Nat} {x : α} (h : xs[k]? = some x) : xs.drop k = x :: xs.drop (k + 1) := by
  obtain ⟨hk, rfl⟩ := List.getElem?_eq_some_iff.1 h
  exact List.drop_eq_getElem_cons hk
theorem drop_all {α : Type} {xs : List α} {k : Nat} (h : xs.length ≤ k) : xs.drop k = [] := List.drop_eq_nil_of_le h
def rowB (d r : Int) (xs : List Int) : Bool := dirB d && carrierB r && stitchesB xs

end Go.Proofs.Ytfgbhhkmdeljoaa
