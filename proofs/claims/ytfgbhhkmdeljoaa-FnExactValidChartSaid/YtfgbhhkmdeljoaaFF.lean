/- Slices of Float: how they are read and owned, and the helpers of the laws on them. -/
import Derived.Test.YtfgbhhkmdeljoaaR
namespace Go.Proofs.Ytfgbhhkmdeljoaa
open Go.RowKit

structure FloatD where
  row : Int
  carrier : Int
  start : Int
  stop : Int
instance : DecidableEq FloatD := fun a b => decidable_of_iff (a.row = b.row ∧ a.carrier = b.carrier ∧ a.start = b.start ∧ a.stop = b.stop) ⟨fun h => by cases a; cases b; simp_all, fun h => by simp [h]⟩
def cellsFloat : List FloatD → List Value
  | [] => []
  | p :: ps => .int .i64 p.row :: .int .i64 p.carrier :: .int .i64 p.start :: .int .i64 p.stop :: cellsFloat ps

theorem cellsFloat_length (ps : List FloatD) : (cellsFloat ps).length = ps.length * 4 := by
  induction ps with
  | nil => rfl
  | cons p ps ih => simp [cellsFloat, ih]; omega
theorem cellsFloat_snoc (ps : List FloatD) (p : FloatD) : cellsFloat (ps ++ [p]) = cellsFloat ps ++ [.int .i64 p.row, .int .i64 p.carrier, .int .i64 p.start, .int .i64 p.stop] := by
  induction ps with
  | nil => rfl
  | cons q ps ih => simp [cellsFloat, ih]
theorem cellsFloat_at {ps : List FloatD} {i : Nat} {p : FloatD} (h : ps[i]? = some p) : (cellsFloat ps)[i * 4]? = some (.int .i64 p.row) ∧ (cellsFloat ps)[i * 4 + 1]? = some (.int .i64 p.carrier) ∧ (cellsFloat ps)[i * 4 + 2]? = some (.int .i64 p.start) ∧ (cellsFloat ps)[i * 4 + 3]? = some (.int .i64 p.stop) := by
  induction ps generalizing i with
  | nil => simp at h
  | cons q ps ih =>
    cases i with
    | zero =>
      simp at h
      subst h
      simp [cellsFloat]
    | succ i =>
      have := ih (i := i) (by simpa using h)
      simp only [Nat.succ_mul, cellsFloat]
      simpa [Nat.add_right_comm] using this
def Floats (w : World) (A : Option Addr) (ps : List FloatD) : Prop :=
  ∀ k, k < ps.length → ∃ b off p, A = some ⟨b, off, none⟩ ∧ ps[k]? = some p ∧ w.cell? ⟨b, off + k * 4, none⟩ = some (.int .i64 p.row) ∧ w.cell? ⟨b, off + k * 4 + 1, none⟩ = some (.int .i64 p.carrier) ∧ w.cell? ⟨b, off + k * 4 + 2, none⟩ = some (.int .i64 p.start) ∧ w.cell? ⟨b, off + k * 4 + 3, none⟩ = some (.int .i64 p.stop)
theorem Floats.of_cells {w w' : World} {A : Option Addr} {ps : List FloatD} (h : Floats w A ps) (hk : ∀ a v, w.cell? a = some v → w'.cell? a = some v) : Floats w' A ps :=
  fun k hk' => by
    obtain ⟨b, off, p, hA, hp, h0, h1, h2, h3⟩ := h k hk'
    exact ⟨b, off, p, hA, hp, hk _ _ h0, hk _ _ h1, hk _ _ h2, hk _ _ h3⟩
theorem Floats.below {w w' : World} {A : Option Addr} {ps : List FloatD} (h : Floats w A ps) (hb : Below w.heap.size w w') : Floats w' A ps := h.of_cells (cells_below hb)
theorem Floats.drewN {w : World} {A : Option Addr} {ps : List FloatD} (h : Floats w A ps) (n : Nat) : Floats (w.drewN n) A ps := h
theorem Floats.nil {w : World} {A : Option Addr} : Floats w A [] := fun k hk => by simp at hk

def marksFloat (k : Int) (m : Nat) : List FloatD := (List.range m).map fun (i : Nat) => ⟨k + 4 * i, k + 4 * i + 1, k + 4 * i + 2, k + 4 * i + 3⟩
theorem marksFloat_length (k : Int) (m : Nat) : (marksFloat k m).length = m := by simp [marksFloat]
theorem marksFloat_snoc (k : Int) (m : Nat) : marksFloat k (m + 1) = marksFloat k m ++ [⟨k + 4 * m, k + 4 * m + 1, k + 4 * m + 2, k + 4 * m + 3⟩] := by simp [marksFloat, List.range_succ]
theorem marksFloat_at {k : Int} {m i : Nat} {p : FloatD} (h : (marksFloat k m)[i]? = some p) : p = ⟨k + 4 * i, k + 4 * i + 1, k + 4 * i + 2, k + 4 * i + 3⟩ := by
  simp only [marksFloat, List.getElem?_map, Option.map_eq_some_iff] at h
  obtain ⟨j, hj, rfl⟩ := h
  obtain ⟨hl, he⟩ := List.getElem?_eq_some_iff.1 hj
  simp at he
  subst he
  rfl


end Go.Proofs.Ytfgbhhkmdeljoaa
