/- CountColours. -/
import Derived.Test.YtfgbhhkmdeljoaaSM
namespace Go.Proofs.Ytfgbhhkmdeljoaa
open Go.RowKit

theorem zeros4 : (madeCells (Value.int .i64 0).cells (4 * 1)).toList = ([0, 0, 0, 0] : List Int).map (Value.int .i64) := by simp [madeCells, Value.cells]; rfl
def bump (cs : List Int) (x : Int) : List Int := cs.set (x - 1).toNat (wrap64 (cs[(x - 1).toNat]?.getD 0 + 1))
def bumpRow (cs row : List Int) : List Int := row.foldl bump cs
def countRows (xss : List (List Int)) : List Int := xss.foldl bumpRow [0, 0, 0, 0]
def countColours (n : Int) (xss : List (List Int)) : List Int := if coloursB n xss then countRows xss else []
theorem bumpRow_length (cs row : List Int) : (bumpRow cs row).length = cs.length := by
  unfold bumpRow
  induction row generalizing cs with
  | nil => rfl
  | cons x r ih => rw [List.foldl_cons, ih]; simp [bump]
theorem countRows_length (xss : List (List Int)) : (countRows xss).length = 4 := by
  unfold countRows
  suffices h : ∀ cs : List Int, (xss.foldl bumpRow cs).length = cs.length by rw [h]; rfl
  induction xss with
  | nil => intro cs; rfl
  | cons x r ih => intro cs; rw [List.foldl_cons, ih, bumpRow_length]
theorem countColours_length (n : Int) (xss : List (List Int)) : (countColours n xss).length ≤ 4 := by
  unfold countColours
  split
  · rw [countRows_length]; omega
  · simp
theorem bump_at {cs : List Int} {i : Nat} {v : Int} (h : cs[i]? = some v) : bump cs ((i : Int) + 1) = cs.set i (wrap64 (v + 1)) := by
  have : ((i : Int) + 1 - 1).toNat = i := by omega
  unfold bump
  rw [this, h]
  rfl
theorem colour_at {n : Int} {xss : List (List Int)} (h : coloursB n xss = true) {k j : Nat} {row : List Int} {x : Int} (hr : xss[k]? = some row) (hx : row[j]? = some x) : ∃ i : Nat, i < 4 ∧ x = (i : Int) + 1 := by
  unfold coloursB at h
  simp only [Bool.and_eq_true, List.all_eq_true] at h
  have h1 := h.2 row (List.mem_of_getElem? hr)
  unfold rowOfB at h1
  simp only [Bool.and_eq_true, List.all_eq_true] at h1
  have h2 := h1.2 x (List.mem_of_getElem? hx)
  unfold carrierB inR at h2
  simp at h2
  exact ⟨(x - 1).toNat, by omega, by omega⟩
theorem bumpRow_snoc {cs row : List Int} {j : Nat} {x : Int} (hx : row[j]? = some x) : bumpRow cs (row.take (j + 1)) = bump (bumpRow cs (row.take j)) x := by
  unfold bumpRow
  rw [take_snoc hx, List.foldl_append]
  rfl
theorem countRows_snoc {xss : List (List Int)} {j : Nat} {x : List Int} (hx : xss[j]? = some x) : countRows (xss.take (j + 1)) = bumpRow (countRows (xss.take j)) x := by
  unfold countRows
  rw [take_snoc hx, List.foldl_append]
  rfl


end Go.Proofs.Ytfgbhhkmdeljoaa
