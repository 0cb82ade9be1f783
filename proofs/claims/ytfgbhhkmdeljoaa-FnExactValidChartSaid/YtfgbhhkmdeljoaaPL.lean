/- Floats and letters: the plain functions. -/
import Derived.Test.YtfgbhhkmdeljoaaCC
import Derived.Test.YtfgbhhkmdeljoaaFF
namespace Go.Proofs.Ytfgbhhkmdeljoaa
open Go.RowKit

def fStep (r c : Int) (s : List FloatD × Int) (k : Nat) (x : Int) : List FloatD × Int := if x = c then (if 0 ≤ s.2 ∧ s.2 + 1 < k then s.1 ++ [⟨r, c, s.2, k⟩] else s.1, k) else s
/-- The floats of one carrier in the first k columns of a row, and the last column of the carrier. -/
def fRow (r c : Int) (row : List Int) : Nat → List FloatD × Int
  | 0 => ([], -1)
  | k + 1 => fStep r c (fRow r c row k) k (row[k]?.getD 0)
def fCar (r : Int) (row : List Int) : Nat → List FloatD
  | 0 => []
  | j + 1 => fCar r row j ++ (fRow r ((j : Int) + 1) row row.length).1
def fAll (xss : List (List Int)) : Nat → List FloatD
  | 0 => []
  | i + 1 => fAll xss i ++ fCar i (xss[i]?.getD []) 4
def floatsP (n : Int) (xss : List (List Int)) : List FloatD := if coloursB n xss then fAll xss xss.length else []
def max64 (a b : Int) : Int := if b < a then a else b
def longOf (fs : List FloatD) : Int := fs.foldl (fun o f => max64 o (wrap64 (wrap64 (f.stop - f.start) - 1))) 0
def longP (n : Int) (xss : List (List Int)) : Int := longOf (floatsP n xss)
def colCode (n : Int) (xss : List (List Int)) : Int := if coloursB n xss then 0 else 1

theorem fRow_succ {r c : Int} {row : List Int} {k : Nat} {x : Int} (h : row[k]? = some x) : fRow r c row (k + 1) = fStep r c (fRow r c row k) k x := by
  rw [fRow, h]; rfl
theorem fRow_last (r c : Int) (row : List Int) (k : Nat) : -1 ≤ (fRow r c row k).2 ∧ (fRow r c row k).2 < k ∧ (fRow r c row k).1.length ≤ k := by
  induction k with
  | zero => simp [fRow]
  | succ k ih =>
    rw [fRow, fStep]
    split
    · split
      · simp; omega
      · simp; omega
    · refine ⟨ih.1, by omega, by omega⟩
theorem fCar_length (r : Int) (row : List Int) (j : Nat) : (fCar r row j).length ≤ j * row.length := by
  induction j with
  | zero => simp [fCar]
  | succ j ih =>
    have := (fRow_last r ((j : Int) + 1) row row.length).2.2
    rw [fCar, List.length_append, Nat.succ_mul]
    omega
theorem fAll_succ {xss : List (List Int)} {i : Nat} {row : List Int} (h : xss[i]? = some row) : fAll xss (i + 1) = fAll xss i ++ fCar i row 4 := by
  rw [fAll, h]; rfl
theorem fAll_length {xss : List (List Int)} (m : Nat) (h : ∀ row ∈ xss, row.length ≤ m) (i : Nat) : (fAll xss i).length ≤ i * (4 * m) := by
  induction i with
  | zero => simp [fAll]
  | succ i ih =>
    rw [fAll, List.length_append, Nat.succ_mul]
    have h1 := fCar_length (i : Int) (xss[i]?.getD []) 4
    have h2 : (xss[i]?.getD []).length ≤ m := by
      cases hx : xss[i]? with
      | none => simp
      | some row => exact h row (List.mem_of_getElem? hx)
    omega
theorem colours_row {n : Int} {xss : List (List Int)} (h : coloursB n xss = true) : 1 ≤ n ∧ n ≤ 8 ∧ 1 ≤ xss.length ∧ xss.length ≤ 8 ∧ ∀ row ∈ xss, (row.length : Int) = n := by
  unfold coloursB inR at h
  simp only [Bool.and_eq_true, List.all_eq_true, decide_eq_true_eq] at h
  obtain ⟨⟨h1, h2⟩, h3⟩ := h
  refine ⟨h1.1, h1.2, by omega, by omega, fun row hr => ?_⟩
  have := h3 row hr
  unfold rowOfB at this
  simp only [Bool.and_eq_true, decide_eq_true_eq] at this
  exact this.1
theorem fAll_small {n : Int} {xss : List (List Int)} (h : coloursB n xss = true) {i : Nat} (hi : i ≤ xss.length) : (fAll xss i).length ≤ 256 := by
  obtain ⟨_, h2, _, h4, h5⟩ := colours_row h
  have := fAll_length 8 (fun row hr => by have := h5 row hr; omega) i
  omega
theorem floatsP_length (n : Int) (xss : List (List Int)) : (floatsP n xss).length ≤ 256 := by
  unfold floatsP
  split
  · exact fAll_small (by assumption) (Nat.le_refl _)
  · simp

end Go.Proofs.Ytfgbhhkmdeljoaa
