/- Slices of Piece: how they are read and owned, and the helpers of the laws on them. -/
import Derived.Test.YtfgbhhkmdeljoaaR
namespace Go.Proofs.Ytfgbhhkmdeljoaa
open Go.RowKit

structure PieceD where
  kind : Int
  times : Int
  len : Int
instance : DecidableEq PieceD := fun a b => decidable_of_iff (a.kind = b.kind ∧ a.times = b.times ∧ a.len = b.len) ⟨fun h => by cases a; cases b; simp_all, fun h => by simp [h]⟩
def cellsPiece : List PieceD → List Value
  | [] => []
  | p :: ps => .int .i64 p.kind :: .int .i64 p.times :: .int .i64 p.len :: cellsPiece ps

theorem cellsPiece_length (ps : List PieceD) : (cellsPiece ps).length = ps.length * 3 := by
  induction ps with
  | nil => rfl
  | cons p ps ih => simp [cellsPiece, ih]; omega
theorem cellsPiece_snoc (ps : List PieceD) (p : PieceD) : cellsPiece (ps ++ [p]) = cellsPiece ps ++ [.int .i64 p.kind, .int .i64 p.times, .int .i64 p.len] := by
  induction ps with
  | nil => rfl
  | cons q ps ih => simp [cellsPiece, ih]
theorem cellsPiece_at {ps : List PieceD} {i : Nat} {p : PieceD} (h : ps[i]? = some p) : (cellsPiece ps)[i * 3]? = some (.int .i64 p.kind) ∧ (cellsPiece ps)[i * 3 + 1]? = some (.int .i64 p.times) ∧ (cellsPiece ps)[i * 3 + 2]? = some (.int .i64 p.len) := by
  induction ps generalizing i with
  | nil => simp at h
  | cons q ps ih =>
    cases i with
    | zero =>
      simp at h
      subst h
      simp [cellsPiece]
    | succ i =>
      have := ih (i := i) (by simpa using h)
      simp only [Nat.succ_mul, cellsPiece]
      simpa [Nat.add_right_comm] using this
def Pieces (w : World) (A : Option Addr) (ps : List PieceD) : Prop :=
  ∀ k, k < ps.length → ∃ b off p, A = some ⟨b, off, none⟩ ∧ ps[k]? = some p ∧ w.cell? ⟨b, off + k * 3, none⟩ = some (.int .i64 p.kind) ∧ w.cell? ⟨b, off + k * 3 + 1, none⟩ = some (.int .i64 p.times) ∧ w.cell? ⟨b, off + k * 3 + 2, none⟩ = some (.int .i64 p.len)
theorem Pieces.of_cells {w w' : World} {A : Option Addr} {ps : List PieceD} (h : Pieces w A ps) (hk : ∀ a v, w.cell? a = some v → w'.cell? a = some v) : Pieces w' A ps :=
  fun k hk' => by
    obtain ⟨b, off, p, hA, hp, h0, h1, h2⟩ := h k hk'
    exact ⟨b, off, p, hA, hp, hk _ _ h0, hk _ _ h1, hk _ _ h2⟩
theorem Pieces.below {w w' : World} {A : Option Addr} {ps : List PieceD} (h : Pieces w A ps) (hb : Below w.heap.size w w') : Pieces w' A ps := h.of_cells (cells_below hb)
theorem Pieces.drewN {w : World} {A : Option Addr} {ps : List PieceD} (h : Pieces w A ps) (n : Nat) : Pieces (w.drewN n) A ps := h
theorem Pieces.nil {w : World} {A : Option Addr} : Pieces w A [] := fun k hk => by simp at hk

def marksPiece (k : Int) (m : Nat) : List PieceD := (List.range m).map fun (i : Nat) => ⟨k + 3 * i, k + 3 * i + 1, k + 3 * i + 2⟩
theorem marksPiece_length (k : Int) (m : Nat) : (marksPiece k m).length = m := by simp [marksPiece]
theorem marksPiece_snoc (k : Int) (m : Nat) : marksPiece k (m + 1) = marksPiece k m ++ [⟨k + 3 * m, k + 3 * m + 1, k + 3 * m + 2⟩] := by simp [marksPiece, List.range_succ]
theorem marksPiece_at {k : Int} {m i : Nat} {p : PieceD} (h : (marksPiece k m)[i]? = some p) : p = ⟨k + 3 * i, k + 3 * i + 1, k + 3 * i + 2⟩ := by
  simp only [marksPiece, List.getElem?_map, Option.map_eq_some_iff] at h
  obtain ⟨j, hj, rfl⟩ := h
  obtain ⟨hl, he⟩ := List.getElem?_eq_some_iff.1 hj
  simp at he
  subst he
  rfl


end Go.Proofs.Ytfgbhhkmdeljoaa
