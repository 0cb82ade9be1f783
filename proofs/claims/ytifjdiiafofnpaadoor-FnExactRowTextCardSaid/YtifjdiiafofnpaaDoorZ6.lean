/- Steps of the proof, joined from several texts: FF PL FLs B CO VP. -/
import Derived.Test.YtifjdiiafofnpaaDoorZ1
import Derived.Test.YtifjdiiafofnpaaDoorZ4
import Derived.BigGuard
import Derived.Test.YtifjdiiafofnpaaDoorZ3
import Derived.BigCall

/- Slices of Float: how they are read and owned, and the helpers of the laws on them. -/
namespace Go.Proofs.YtifjdiiafofnpaaDoor
open Go.RowKit

structure FloatD where
  row : Int
  carrier : Int
  start : Int
  stop : Int
instance : DecidableEq FloatD := fun a b => decidable_of_iff (a.row = b.row ∧ a.carrier = b.carrier ∧ a.start = b.start ∧ a.stop = b.stop) ⟨fun h => by cases a; cases b; simp_all, fun h => by simp [h]⟩
def cellsFloat : List FloatD → List Value
  | [] => []
  | p :: ps => .int .i64 p.row :: .int .i64 p.carrier :: .int .i64 p.start :: .int .i64 p.stop :: cellsFloat ps

theorem cellsFloat_length (ps : List FloatD) : (cellsFloat ps).length = ps.length * 4 := by
  induction ps with
  | nil => rfl
  | cons p ps ih => simp [cellsFloat, ih]; omega
theorem cellsFloat_snoc (ps : List FloatD) (p : FloatD) : cellsFloat (ps ++ [p]) = cellsFloat ps ++ [.int .i64 p.row, .int .i64 p.carrier, .int .i64 p.start, .int .i64 p.stop] := by
  induction ps with
  | nil => rfl
  | cons q ps ih => simp [cellsFloat, ih]
theorem cellsFloat_at {ps : List FloatD} {i : Nat} {p : FloatD} (h : ps[i]? = some p) : (cellsFloat ps)[i * 4]? = some (.int .i64 p.row) ∧ (cellsFloat ps)[i * 4 + 1]? = some (.int .i64 p.carrier) ∧ (cellsFloat ps)[i * 4 + 2]? = some (.int .i64 p.start) ∧ (cellsFloat ps)[i * 4 + 3]? = some (.int .i64 p.stop) := by
  induction ps generalizing i with
  | nil => simp at h
  | cons q ps ih =>
    cases i with
    | zero =>
      simp at h
      subst h
      simp [cellsFloat]
    | succ i =>
      have := ih (i := i) (by simpa using h)
      simp only [Nat.succ_mul, cellsFloat]
      simpa [Nat.add_right_comm] using this
def Floats (w : World) (A : Option Addr) (ps : List FloatD) : Prop :=
  ∀ k, k < ps.length → ∃ b off p, A = some ⟨b, off, none⟩ ∧ ps[k]? = some p ∧ w.cell? ⟨b, off + k * 4, none⟩ = some (.int .i64 p.row) ∧ w.cell? ⟨b, off + k * 4 + 1, none⟩ = some (.int .i64 p.carrier) ∧ w.cell? ⟨b, off + k * 4 + 2, none⟩ = some (.int .i64 p.start) ∧ w.cell? ⟨b, off + k * 4 + 3, none⟩ = some (.int .i64 p.stop)
theorem Floats.of_cells {w w' : World} {A : Option Addr} {ps : List FloatD} (h : Floats w A ps) (hk : ∀ a v, w.cell? a = some v → w'.cell? a = some v) : Floats w' A ps :=
  fun k hk' => by
    obtain ⟨b, off, p, hA, hp, h0, h1, h2, h3⟩ := h k hk'
    exact ⟨b, off, p, hA, hp, hk _ _ h0, hk _ _ h1, hk _ _ h2, hk _ _ h3⟩
theorem Floats.below {w w' : World} {A : Option Addr} {ps : List FloatD} (h : Floats w A ps) (hb : Below w.heap.size w w') : Floats w' A ps := h.of_cells (cells_below hb)
theorem Floats.drewN {w : World} {A : Option Addr} {ps : List FloatD} (h : Floats w A ps) (n : Nat) : Floats (w.drewN n) A ps := h
theorem Floats.nil {w : World} {A : Option Addr} : Floats w A [] := fun k hk => by simp at hk

def marksFloat (k : Int) (m : Nat) : List FloatD := (List.range m).map fun (i : Nat) => ⟨k + 4 * i, k + 4 * i + 1, k + 4 * i + 2, k + 4 * i + 3⟩
theorem marksFloat_length (k : Int) (m : Nat) : (marksFloat k m).length = m := by simp [marksFloat]
theorem marksFloat_snoc (k : Int) (m : Nat) : marksFloat k (m + 1) = marksFloat k m ++ [⟨k + 4 * m, k + 4 * m + 1, k + 4 * m + 2, k + 4 * m + 3⟩] := by simp [marksFloat, List.range_succ]
theorem marksFloat_at {k : Int} {m i : Nat} {p : FloatD} (h : (marksFloat k m)[i]? = some p) : p = ⟨k + 4 * i, k + 4 * i + 1, k + 4 * i + 2, k + 4 * i + 3⟩ := by
  simp only [marksFloat, List.getElem?_map, Option.map_eq_some_iff] at h
  obtain ⟨j, hj, rfl⟩ := h
  obtain ⟨hl, he⟩ := List.getElem?_eq_some_iff.1 hj
  simp at he
  subst he
  rfl


end Go.Proofs.YtifjdiiafofnpaaDoor

/- Floats and letters: the plain functions. -/
namespace Go.Proofs.YtifjdiiafofnpaaDoor
open Go.RowKit

def fStep (r c : Int) (s : List FloatD × Int) (k : Nat) (x : Int) : List FloatD × Int := if x = c then (if 0 ≤ s.2 ∧ s.2 + 1 < k then s.1 ++ [⟨r, c, s.2, k⟩] else s.1, k) else s
/-- The floats of one carrier in the first k columns of a row, and the last column of the carrier. -/
def fRow (r c : Int) (row : List Int) : Nat → List FloatD × Int
  | 0 => ([], -1)
  | k + 1 => fStep r c (fRow r c row k) k (row[k]?.getD 0)
def fCar (r : Int) (row : List Int) : Nat → List FloatD
  | 0 => []
  | j + 1 => fCar r row j ++ (fRow r ((j : Int) + 1) row row.length).1
def fAll (xss : List (List Int)) : Nat → List FloatD
  | 0 => []
  | i + 1 => fAll xss i ++ fCar i (xss[i]?.getD []) 4
def floatsP (n : Int) (xss : List (List Int)) : List FloatD := if coloursB n xss then fAll xss xss.length else []
def max64 (a b : Int) : Int := if b < a then a else b
def longOf (fs : List FloatD) : Int := fs.foldl (fun o f => max64 o (wrap64 (wrap64 (f.stop - f.start) - 1))) 0
def longP (n : Int) (xss : List (List Int)) : Int := longOf (floatsP n xss)
def colCode (n : Int) (xss : List (List Int)) : Int := if coloursB n xss then 0 else 1

theorem fRow_succ {r c : Int} {row : List Int} {k : Nat} {x : Int} (h : row[k]? = some x) : fRow r c row (k + 1) = fStep r c (fRow r c row k) k x := by
  rw [fRow, h]; rfl
theorem fRow_last (r c : Int) (row : List Int) (k : Nat) : -1 ≤ (fRow r c row k).2 ∧ (fRow r c row k).2 < k ∧ (fRow r c row k).1.length ≤ k := by
  induction k with
  | zero => simp [fRow]
  | succ k ih =>
    rw [fRow, fStep]
    split
    · split
      · simp; omega
      · simp; omega
    · refine ⟨ih.1, by omega, by omega⟩
theorem fCar_length (r : Int) (row : List Int) (j : Nat) : (fCar r row j).length ≤ j * row.length := by
  induction j with
  | zero => simp [fCar]
  | succ j ih =>
    have := (fRow_last r ((j : Int) + 1) row row.length).2.2
    rw [fCar, List.length_append, Nat.succ_mul]
    omega
theorem fAll_succ {xss : List (List Int)} {i : Nat} {row : List Int} (h : xss[i]? = some row) : fAll xss (i + 1) = fAll xss i ++ fCar i row 4 := by
  rw [fAll, h]; rfl
theorem fAll_length {xss : List (List Int)} (m : Nat) (h : ∀ row ∈ xss, row.length ≤ m) (i : Nat) : (fAll xss i).length ≤ i * (4 * m) := by
  induction i with
  | zero => simp [fAll]
  | succ i ih =>
    rw [fAll, List.length_append, Nat.succ_mul]
    have h1 := fCar_length (i : Int) (xss[i]?.getD []) 4
    have h2 : (xss[i]?.getD []).length ≤ m := by
      cases hx : xss[i]? with
      | none => simp
      | some row => exact h row (List.mem_of_getElem? hx)
    omega
theorem colours_row {n : Int} {xss : List (List Int)} (h : coloursB n xss = true) : 1 ≤ n ∧ n ≤ 8 ∧ 1 ≤ xss.length ∧ xss.length ≤ 8 ∧ ∀ row ∈ xss, (row.length : Int) = n := by
  unfold coloursB inR at h
  simp only [Bool.and_eq_true, List.all_eq_true, decide_eq_true_eq] at h
  obtain ⟨⟨h1, h2⟩, h3⟩ := h
  refine ⟨h1.1, h1.2, by omega, by omega, fun row hr => ?_⟩
  have := h3 row hr
  unfold rowOfB at this
  simp only [Bool.and_eq_true, decide_eq_true_eq] at this
  exact this.1
theorem fAll_small {n : Int} {xss : List (List Int)} (h : coloursB n xss = true) {i : Nat} (hi : i ≤ xss.length) : (fAll xss i).length ≤ 256 := by
  obtain ⟨_, h2, _, h4, h5⟩ := colours_row h
  have := fAll_length 8 (fun row hr => by have := h5 row hr; omega) i
  omega
theorem floatsP_length (n : Int) (xss : List (List Int)) : (floatsP n xss).length ≤ 256 := by
  unfold floatsP
  split
  · exact fAll_small (by assumption) (Nat.le_refl _)
  · simp

end Go.Proofs.YtifjdiiafofnpaaDoor

/- Floats: l19Floats, l19All, floats, FloatsOf, LongestFloat. -/
namespace Go.Proofs.YtifjdiiafofnpaaDoor
open Go.RowKit

theorem OwnC.news {w : World} {lo hi : Nat} {e : TypeId} {sz : Nat} {A : Option Addr} {n c : Nat} {cs : List Value} (h : OwnC w lo hi e sz A n c cs) : ∀ j u, cs[j]? = some u → ∃ b off, A = some ⟨b, off, none⟩ ∧ w.cell? ⟨b, off + j, none⟩ = some u := by
  intro j u hu
  obtain ⟨hj, rfl⟩ := List.getElem?_eq_some_iff.1 hu
  obtain ⟨g, rfl, _, _, h1, _⟩ := h.cell hj
  exact ⟨g, 0, rfl, by rw [Nat.zero_add]; exact h1⟩
theorem cellsFloat_one (ps : List FloatD) : ∀ u ∈ cellsFloat ps, u.oneCell' = true := by
  induction ps with
  | nil => simp [cellsFloat]
  | cons p ps ih =>
    intro u hu
    simp only [cellsFloat, List.mem_cons] at hu
    rcases hu with rfl | rfl | rfl | rfl | hu
    · rfl
    · rfl
    · rfl
    · rfl
    · exact ih u hu
theorem cellsFloat_append (a b : List FloatD) : cellsFloat (a ++ b) = cellsFloat a ++ cellsFloat b := by
  induction a with
  | nil => rfl
  | cons p a ih => simp [cellsFloat, ih]


end Go.Proofs.YtifjdiiafofnpaaDoor

/- The hand knitter's questions: FirstOf, ColumnAt. -/
namespace Go.Proofs.YtifjdiiafofnpaaDoor
open Go.RowKit

theorem Ints.take {w : World} {A : Option Addr} {xs : List Int} (h : Ints w A xs) (n : Nat) : Ints w A (xs.take n) := by
  intro k hk
  obtain ⟨b, off, x, hA, hc, hx⟩ := h k (by rw [List.length_take] at hk; omega)
  exact ⟨b, off, x, hA, hc, by rw [List.getElem?_take, if_pos (by rw [List.length_take] at hk; omega)]; exact hx⟩


end Go.Proofs.YtifjdiiafofnpaaDoor

/- CountColours. -/
namespace Go.Proofs.YtifjdiiafofnpaaDoor
open Go.RowKit

theorem zeros4 : (madeCells (Value.int .i64 0).cells (4 * 1)).toList = ([0, 0, 0, 0] : List Int).map (Value.int .i64) := by simp [madeCells, Value.cells]; rfl
def bump (cs : List Int) (x : Int) : List Int := cs.set (x - 1).toNat (wrap64 (cs[(x - 1).toNat]?.getD 0 + 1))
def bumpRow (cs row : List Int) : List Int := row.foldl bump cs
def countRows (xss : List (List Int)) : List Int := xss.foldl bumpRow [0, 0, 0, 0]
def countColours (n : Int) (xss : List (List Int)) : List Int := if coloursB n xss then countRows xss else []
theorem bumpRow_length (cs row : List Int) : (bumpRow cs row).length = cs.length := by
  unfold bumpRow
  induction row generalizing cs with
  | nil => rfl
  | cons x r ih => rw [List.foldl_cons, ih]; simp [bump]
theorem countRows_length (xss : List (List Int)) : (countRows xss).length = 4 := by
  unfold countRows
  suffices h : ∀ cs : List Int, (xss.foldl bumpRow cs).length = cs.length by rw [h]; rfl
  induction xss with
  | nil => intro cs; rfl
  | cons x r ih => intro cs; rw [List.foldl_cons, ih, bumpRow_length]
theorem countColours_length (n : Int) (xss : List (List Int)) : (countColours n xss).length ≤ 4 := by
  unfold countColours
  split
  · rw [countRows_length]; omega
  · simp
theorem bump_at {cs : List Int} {i : Nat} {v : Int} (h : cs[i]? = some v) : bump cs ((i : Int) + 1) = cs.set i (wrap64 (v + 1)) := by
  have : ((i : Int) + 1 - 1).toNat = i := by omega
  unfold bump
  rw [this, h]
  rfl
theorem colour_at {n : Int} {xss : List (List Int)} (h : coloursB n xss = true) {k j : Nat} {row : List Int} {x : Int} (hr : xss[k]? = some row) (hx : row[j]? = some x) : ∃ i : Nat, i < 4 ∧ x = (i : Int) + 1 := by
  unfold coloursB at h
  simp only [Bool.and_eq_true, List.all_eq_true] at h
  have h1 := h.2 row (List.mem_of_getElem? hr)
  unfold rowOfB at h1
  simp only [Bool.and_eq_true, List.all_eq_true] at h1
  have h2 := h1.2 x (List.mem_of_getElem? hx)
  unfold carrierB inR at h2
  simp at h2
  exact ⟨(x - 1).toNat, by omega, by omega⟩
theorem bumpRow_snoc {cs row : List Int} {j : Nat} {x : Int} (hx : row[j]? = some x) : bumpRow cs (row.take (j + 1)) = bump (bumpRow cs (row.take j)) x := by
  unfold bumpRow
  rw [take_snoc hx, List.foldl_append]
  rfl
theorem countRows_snoc {xss : List (List Int)} {j : Nat} {x : List Int} (hx : xss[j]? = some x) : countRows (xss.take (j + 1)) = bumpRow (countRows (xss.take j)) x := by
  unfold countRows
  rw [take_snoc hx, List.foldl_append]
  rfl


end Go.Proofs.YtifjdiiafofnpaaDoor

/- ValidPieces. -/
namespace Go.Proofs.YtifjdiiafofnpaaDoor
open Go.RowKit

def plainP (p : PieceD) : Bool := isStitchB p.kind && inR p.times 1 16 && decide (p.len = 0)
def groupP (d : Nat) (p : PieceD) (m : Nat) : Bool := inR p.times 0 16 && !(decide (p.times = 0) && decide (0 < d)) && inR p.len 1 m
def rangeP (d : Nat) : List PieceD → Option Nat
  | [] => some 0
  | p :: r =>
    if p.kind = 12 then
      if d < 3 ∧ groupP d p r.length = true then
        match rangeP (d + 1) (r.take p.len.toNat) with
        | none => none
        | some _ => (rangeP d (r.drop p.len.toNat)).map (fun o => (if p.times = 0 then 1 else 0) + o)
      else none
    else if plainP p then rangeP d r else none
termination_by l => l.length
decreasing_by all_goals (simp; try omega)
def okP : Option Nat → Bool
  | none => false
  | some o => decide (o ≤ 1)
def piecesB (ps : List PieceD) : Bool := decide (ps.length ≤ 24) && okP (rangeP 0 ps)
def segP (ps : List PieceD) (a b : Nat) : List PieceD := (ps.drop a).take (b - a)
theorem segP_nil (ps : List PieceD) (a : Nat) : segP ps a a = [] := by simp [segP]
theorem segP_all (ps : List PieceD) : segP ps 0 ps.length = ps := by simp [segP]
theorem segP_length {ps : List PieceD} {a b : Nat} (h : b ≤ ps.length) : (segP ps a b).length = b - a := by simp [segP]; omega
theorem segP_cons {ps : List PieceD} {a b : Nat} {p : PieceD} (hp : ps[a]? = some p) (h : a < b) : segP ps a b = p :: segP ps (a + 1) b := by
  unfold segP
  have ha : a < ps.length := by
    by_cases hlt : a < ps.length
    · exact hlt
    · rw [List.getElem?_eq_none (by omega)] at hp; cases hp
  rw [List.drop_eq_getElem_cons ha, show b - a = (b - (a + 1)) + 1 by omega, List.take_succ_cons]
  congr 1
  rw [List.getElem?_eq_getElem ha] at hp
  injection hp
theorem segP_take {ps : List PieceD} {a b n : Nat} (h : a + n ≤ b) : (segP ps a b).take n = segP ps a (a + n) := by
  unfold segP
  rw [List.take_take]
  congr 1
  omega
theorem segP_drop {ps : List PieceD} {a b n : Nat} : (segP ps a b).drop n = segP ps (a + n) b := by
  unfold segP
  rw [List.drop_take, List.drop_drop]
  congr 1
  omega
theorem rangeP_nil (d : Nat) : rangeP d [] = some 0 := by rw [rangeP]
theorem rangeP_plain {d : Nat} {p : PieceD} {r : List PieceD} (h : p.kind ≠ 12) (hp : plainP p = true) : rangeP d (p :: r) = rangeP d r := by rw [rangeP, if_neg h, if_pos hp]
theorem rangeP_bad {d : Nat} {p : PieceD} {r : List PieceD} (h : p.kind ≠ 12) (hp : plainP p = false) : rangeP d (p :: r) = none := by rw [rangeP, if_neg h, if_neg (by simp [hp])]
theorem rangeP_group {d : Nat} {p : PieceD} {r : List PieceD} (h : p.kind = 12) (hd : ¬ (d < 3 ∧ groupP d p r.length = true)) : rangeP d (p :: r) = none := by rw [rangeP, if_pos h, if_neg hd]
theorem rangeP_inner {d : Nat} {p : PieceD} {r : List PieceD} (h : p.kind = 12) (hi : rangeP (d + 1) (r.take p.len.toNat) = none) : rangeP d (p :: r) = none := by
  rw [rangeP, if_pos h]
  split
  · rw [hi]
  · rfl
theorem rangeP_open {d : Nat} {p : PieceD} {r : List PieceD} (h : p.kind = 12) (hd : d < 3) (hg : groupP d p r.length = true) (hi : (rangeP (d + 1) (r.take p.len.toNat)).isSome = true) : rangeP d (p :: r) = (rangeP d (r.drop p.len.toNat)).map (fun o => (if p.times = 0 then 1 else 0) + o) := by
  rw [rangeP, if_pos h, if_pos ⟨hd, hg⟩]
  split
  · rename_i e; rw [e] at hi; cases hi
  · rfl
theorem rangeP_zero (n d : Nat) (hd : 0 < d) : ∀ l : List PieceD, l.length ≤ n → ∀ o, rangeP d l = some o → o = 0 := by
  induction n with
  | zero =>
    intro l hl o h
    have : l = [] := by cases l <;> simp_all
    subst this
    rw [rangeP_nil] at h
    injection h with h
    exact h.symm
  | succ n ih =>
    intro l hl o h
    cases l with
    | nil => rw [rangeP_nil] at h; injection h with h; exact h.symm
    | cons p r =>
      simp at hl
      rw [rangeP] at h
      split at h
      · split at h
        · rename_i hg
          split at h
          · cases h
          · rw [Option.map_eq_some_iff] at h
            obtain ⟨o', ho', e⟩ := h
            have := ih _ (by simp; omega) o' ho'
            have ht : p.times ≠ 0 := by
              intro ht
              have := hg.2
              simp [groupP, ht, hd] at this
            rw [if_neg ht] at e
            omega
        · cases h
      · split at h
        · exact ih r hl o h
        · cases h
def openOf : Option Nat → Int
  | none => 0
  | some o => o

set_option maxHeartbeats 4000000 in
theorem spec_l16Range (ps : List PieceD) (A : Option Addr) (c : Nat) (hl : ps.length ≤ 1000) (m : Nat) : ∀ (a b d : Nat) (w : World), Pieces w A ps → b - a ≤ m → a ≤ b → b ≤ ps.length → d ≤ 3 →
    Calls Tryd.prog 68 #[.slice A ps.length c, .int .i64 a, .int .i64 b, .int .i64 d] w fun e w' => e = .returned (.tuple #[.int .i64 (openOf (rangeP d (segP ps a b))), .bool (rangeP d (segP ps a b)).isSome]) ∧ Below w.heap.size w w' := by
  induction m using Nat.strongRecOn with
  | ind m ih =>
  intro a b d w h hm hab hbl hd
  have IH := Lib.hid ih; clear ih
  go_enter Tryd.func68, Tryd.ntmps68
  go_wp2_with (fail)
  go_loopw [10, 11] (fun ov iv wr => ∃ (k o : Nat), a ≤ k ∧ k ≤ b ∧ o ≤ k ∧ ov = .int .i64 o ∧ iv = .int .i64 k ∧ rangeP d (segP ps a b) = (rangeP d (segP ps k b)).map (fun q => o + q) ∧ Below w.heap.size w wr) (fun _ iv _ => b - (intOf iv).toNat)
  case atStart => exact ⟨a, 0, Nat.le_refl _, hab, Nat.zero_le _, rfl, rfl, by simp, Below.refl _ _⟩
  case round =>
    obtain ⟨k, o, hak, hkb, hok, rfl, rfl, hr, hb⟩ := hrel
    have HR := Lib.hid hr; clear hr
    have hz := hb.size
    by_cases hlt : k < b
    · obtain ⟨b1, off, p, rfl, hp, p0, p1, p2⟩ := (h.below hb) k (by omega)
      have HS : Hid (segP ps k b = p :: segP ps (k + 1) b) := Lib.hid (segP_cons hp hlt)
      have HP := Lib.hid hp; clear hp
      have j1 : (0 : Int) ≤ (k : Int) := by omega
      have j2 : (k : Int) < (ps.length : Int) := by omega
      by_cases hk : p.kind = 12
      · have hk' : (p.kind != 12) = false := by simp [hk]
        have HL : Hid ((segP ps (k + 1) b).length = b - (k + 1)) := Lib.hid (segP_length hbl)
        have hcast : ((b - (k + 1) : Nat) : Int) = (b : Int) - (k : Int) - 1 := by omega
        have HG : Hid (groupP d p (segP ps (k + 1) b).length = (inR p.times 0 16 && !(decide (p.times = 0) && decide (0 < d)) && inR p.len 1 ((b : Int) - (k : Int) - 1))) := Lib.hid (by rw [HL.out, groupP, hcast])
        clear hcast
        by_cases hd3 : d < 3
        · have hd3' : decide ((3 : Int) ≤ (d : Int)) = false := decide_eq_false (by omega)
          cases ht : inR p.times 0 16
          · have HN : Hid (rangeP d (segP ps a b) = none) := Lib.hid (by rw [HR.out, HS.out, rangeP_group hk (by rw [HG.out, ht]; simp)]; rfl)
            clear hk
            set_option maxRecDepth 10000 in go_wp2_with (first | (go_at_call 61; refine (spec_l14Kind _ _).mono ?_; rintro e _ ⟨rfl, rfl⟩) | (go_at_call 56; refine (spec_l00In _ _ _ _).mono ?_; rintro e _ ⟨rfl, rfl⟩))
            go_ret2
            rw [HN.out]
            exact ⟨rfl, by (repeat (first | exact Below.refl _ _ | assumption | apply Below.drew | apply below_drewN | (refine Below.alloc ?_ (by first | omega | (simp; done) | (simp; omega)) _) | (refine Below.setCell ?_ (by first | omega | (simp; done) | (simp; omega)) _)))⟩
          · by_cases h0 : p.times = 0
            · have h0' : (p.times == 0) = true := by simp [h0]
              by_cases hd0 : 0 < d
              · have hd0' : decide ((0 : Int) < (d : Int)) = true := decide_eq_true (by omega)
                have HN : Hid (rangeP d (segP ps a b) = none) := Lib.hid (by rw [HR.out, HS.out, rangeP_group hk (by rw [HG.out, h0]; simp [hd0])]; rfl)
                clear hk h0
                set_option maxRecDepth 10000 in go_wp2_with (first | (go_at_call 61; refine (spec_l14Kind _ _).mono ?_; rintro e _ ⟨rfl, rfl⟩) | (go_at_call 56; refine (spec_l00In _ _ _ _).mono ?_; rintro e _ ⟨rfl, rfl⟩))
                go_ret2
                rw [HN.out]
                exact ⟨rfl, by (repeat (first | exact Below.refl _ _ | assumption | apply Below.drew | apply below_drewN | (refine Below.alloc ?_ (by first | omega | (simp; done) | (simp; omega)) _) | (refine Below.setCell ?_ (by first | omega | (simp; done) | (simp; omega)) _)))⟩
              · have hd0' : decide ((0 : Int) < (d : Int)) = false := decide_eq_false (by omega)
                cases hn : inR p.len 1 ((b : Int) - (k : Int) - 1)
                · have HN : Hid (rangeP d (segP ps a b) = none) := Lib.hid (by rw [HR.out, HS.out, rangeP_group hk (by rw [HG.out, hn]; simp)]; rfl)
                  clear hk h0
                  set_option maxRecDepth 10000 in go_wp2_with (first | (go_at_call 61; refine (spec_l14Kind _ _).mono ?_; rintro e _ ⟨rfl, rfl⟩) | (go_at_call 56; refine (spec_l00In _ _ _ _).mono ?_; rintro e _ ⟨rfl, rfl⟩))
                  go_ret2
                  rw [HN.out]
                  exact ⟨rfl, by (repeat (first | exact Below.refl _ _ | assumption | apply Below.drew | apply below_drewN | (refine Below.alloc ?_ (by first | omega | (simp; done) | (simp; omega)) _) | (refine Below.setCell ?_ (by first | omega | (simp; done) | (simp; omega)) _)))⟩
                · have HGT : Hid (groupP d p (segP ps (k + 1) b).length = true) := Lib.hid (by rw [HG.out, ht, hn]; simp; omega)
                  have h1 : 1 ≤ p.len ∧ p.len ≤ (b : Int) - (k : Int) - 1 := by simpa [inR] using hn
                  obtain ⟨n, hnl⟩ : ∃ n : Nat, p.len = (n : Int) := ⟨p.len.toNat, by omega⟩
                  have HNL := Lib.hid hnl
                  rw [hnl] at p2 hn h1
                  clear hnl
                  have hlen : k + 1 + n ≤ b := by omega
                  have HT : Hid ((segP ps (k + 1) b).take p.len.toNat = segP ps (k + 1) (k + 1 + n)) := Lib.hid (by rw [HNL.out]; exact segP_take hlen)
                  have HD : Hid ((segP ps (k + 1) b).drop p.len.toNat = segP ps (k + 1 + n) b) := Lib.hid (by rw [HNL.out]; exact segP_drop)
                  have HIC : Hid (∀ w2, Pieces w2 _ ps → _) := Lib.hid (fun w2 (h2 : Pieces w2 (some ⟨b1, off, none⟩) ps) => IH.out n (by omega) (k + 1) (k + 1 + n) (d + 1) w2 h2 (by omega) (by omega) (by omega) (by omega))
                  have f1 : ((k + 1 : Nat) : Int) = (k : Int) + 1 := by omega
                  have f2 : ((k + 1 + n : Nat) : Int) = (k : Int) + 1 + (n : Int) := by omega
                  have f3 : ((d + 1 : Nat) : Int) = (d : Int) + 1 := by omega
                  rw [f1, f2, f3] at HIC
                  clear f1 f2 f3
                  cases hin : (rangeP (d + 1) (segP ps (k + 1) (k + 1 + n))).isSome
                  · have HN : Hid (rangeP d (segP ps a b) = none) := Lib.hid (by rw [HR.out, HS.out, rangeP_inner hk (by rw [HT.out]; simpa using hin)]; rfl)
                    clear hk h0
                    set_option maxRecDepth 10000 in go_wp2_with (first | (go_at_call 61; refine (spec_l14Kind _ _).mono ?_; rintro e _ ⟨rfl, rfl⟩) | (go_at_call 56; refine (spec_l00In _ _ _ _).mono ?_; rintro e _ ⟨rfl, rfl⟩))
                    refine (HIC.out _ (h.below (by (repeat (first | exact Below.refl _ _ | assumption | apply Below.drew | apply below_drewN | (refine Below.alloc ?_ (by first | omega | (simp; done) | (simp; omega)) _) | (refine Below.setCell ?_ (by first | omega | (simp; done) | (simp; omega)) _)))))).mono ?_; rintro e w2 ⟨rfl, b2⟩
                    simp only [World.size_alloc] at b2
                    have k2 : Blk w2 wr.heap.size 61 #[.int .i64 p.kind, .int .i64 p.times, .int .i64 (n : Int)] := (Blk.new _ _ _).below b2 (by first | omega | (simp; done) | (simp; omega))
                    obtain ⟨s0, s1, s2⟩ := k2.c3
                    have hb2 : Below w.heap.size w w2 := Below.trans (by (repeat (first | exact Below.refl _ _ | assumption | apply Below.drew | apply below_drewN | (refine Below.alloc ?_ (by first | omega | (simp; done) | (simp; omega)) _) | (refine Below.setCell ?_ (by first | omega | (simp; done) | (simp; omega)) _)))) (b2.mono (by first | omega | (simp; done) | (simp; omega)))
                    set_option maxRecDepth 10000 in go_wp2_with (first | (go_at_call 61; refine (spec_l14Kind _ _).mono ?_; rintro e _ ⟨rfl, rfl⟩) | (go_at_call 56; refine (spec_l00In _ _ _ _).mono ?_; rintro e _ ⟨rfl, rfl⟩))
                    go_ret2
                    rw [HN.out]
                    exact ⟨rfl, hb2⟩
                  · have HQ : Hid (rangeP d (segP ps a b) = (rangeP d (segP ps (k + 1 + n) b)).map (fun q => (o + 1) + q)) := Lib.hid (by rw [HR.out, HS.out, rangeP_open hk hd3 HGT.out (by rw [HT.out]; exact hin), HD.out, Option.map_map]; congr 1; funext q; simp [h0]; omega)
                    clear hk h0
                    set_option maxRecDepth 10000 in go_wp2_with (first | (go_at_call 61; refine (spec_l14Kind _ _).mono ?_; rintro e _ ⟨rfl, rfl⟩) | (go_at_call 56; refine (spec_l00In _ _ _ _).mono ?_; rintro e _ ⟨rfl, rfl⟩))
                    refine (HIC.out _ (h.below (by (repeat (first | exact Below.refl _ _ | assumption | apply Below.drew | apply below_drewN | (refine Below.alloc ?_ (by first | omega | (simp; done) | (simp; omega)) _) | (refine Below.setCell ?_ (by first | omega | (simp; done) | (simp; omega)) _)))))).mono ?_; rintro e w2 ⟨rfl, b2⟩
                    simp only [World.size_alloc] at b2
                    have k2 : Blk w2 wr.heap.size 61 #[.int .i64 p.kind, .int .i64 p.times, .int .i64 (n : Int)] := (Blk.new _ _ _).below b2 (by first | omega | (simp; done) | (simp; omega))
                    obtain ⟨s0, s1, s2⟩ := k2.c3
                    have hb2 : Below w.heap.size w w2 := Below.trans (by (repeat (first | exact Below.refl _ _ | assumption | apply Below.drew | apply below_drewN | (refine Below.alloc ?_ (by first | omega | (simp; done) | (simp; omega)) _) | (refine Below.setCell ?_ (by first | omega | (simp; done) | (simp; omega)) _)))) (b2.mono (by first | omega | (simp; done) | (simp; omega)))
                    set_option maxRecDepth 10000 in go_wp2_with (first | (go_at_call 61; refine (spec_l14Kind _ _).mono ?_; rintro e _ ⟨rfl, rfl⟩) | (go_at_call 56; refine (spec_l00In _ _ _ _).mono ?_; rintro e _ ⟨rfl, rfl⟩))
                    exact ⟨⟨k + 1 + n, o + 1, by omega, by omega, by omega, by go_num, by go_num, HQ.out, hb2⟩, by simp [intOf]; omega⟩
            · have h0' : (p.times == 0) = false := by simpa using h0
              cases hn : inR p.len 1 ((b : Int) - (k : Int) - 1)
              · have HN : Hid (rangeP d (segP ps a b) = none) := Lib.hid (by rw [HR.out, HS.out, rangeP_group hk (by rw [HG.out, hn]; simp)]; rfl)
                clear hk h0
                set_option maxRecDepth 10000 in go_wp2_with (first | (go_at_call 61; refine (spec_l14Kind _ _).mono ?_; rintro e _ ⟨rfl, rfl⟩) | (go_at_call 56; refine (spec_l00In _ _ _ _).mono ?_; rintro e _ ⟨rfl, rfl⟩))
                go_ret2
                rw [HN.out]
                exact ⟨rfl, by (repeat (first | exact Below.refl _ _ | assumption | apply Below.drew | apply below_drewN | (refine Below.alloc ?_ (by first | omega | (simp; done) | (simp; omega)) _) | (refine Below.setCell ?_ (by first | omega | (simp; done) | (simp; omega)) _)))⟩
              · have HGT : Hid (groupP d p (segP ps (k + 1) b).length = true) := Lib.hid (by rw [HG.out, ht, hn]; simp [h0])
                have h1 : 1 ≤ p.len ∧ p.len ≤ (b : Int) - (k : Int) - 1 := by simpa [inR] using hn
                obtain ⟨n, hnl⟩ : ∃ n : Nat, p.len = (n : Int) := ⟨p.len.toNat, by omega⟩
                have HNL := Lib.hid hnl
                rw [hnl] at p2 hn h1
                clear hnl
                have hlen : k + 1 + n ≤ b := by omega
                have HT : Hid ((segP ps (k + 1) b).take p.len.toNat = segP ps (k + 1) (k + 1 + n)) := Lib.hid (by rw [HNL.out]; exact segP_take hlen)
                have HD : Hid ((segP ps (k + 1) b).drop p.len.toNat = segP ps (k + 1 + n) b) := Lib.hid (by rw [HNL.out]; exact segP_drop)
                have HIC : Hid (∀ w2, Pieces w2 _ ps → _) := Lib.hid (fun w2 (h2 : Pieces w2 (some ⟨b1, off, none⟩) ps) => IH.out n (by omega) (k + 1) (k + 1 + n) (d + 1) w2 h2 (by omega) (by omega) (by omega) (by omega))
                have f1 : ((k + 1 : Nat) : Int) = (k : Int) + 1 := by omega
                have f2 : ((k + 1 + n : Nat) : Int) = (k : Int) + 1 + (n : Int) := by omega
                have f3 : ((d + 1 : Nat) : Int) = (d : Int) + 1 := by omega
                rw [f1, f2, f3] at HIC
                clear f1 f2 f3
                cases hin : (rangeP (d + 1) (segP ps (k + 1) (k + 1 + n))).isSome
                · have HN : Hid (rangeP d (segP ps a b) = none) := Lib.hid (by rw [HR.out, HS.out, rangeP_inner hk (by rw [HT.out]; simpa using hin)]; rfl)
                  clear hk h0
                  set_option maxRecDepth 10000 in go_wp2_with (first | (go_at_call 61; refine (spec_l14Kind _ _).mono ?_; rintro e _ ⟨rfl, rfl⟩) | (go_at_call 56; refine (spec_l00In _ _ _ _).mono ?_; rintro e _ ⟨rfl, rfl⟩))
                  refine (HIC.out _ (h.below (by (repeat (first | exact Below.refl _ _ | assumption | apply Below.drew | apply below_drewN | (refine Below.alloc ?_ (by first | omega | (simp; done) | (simp; omega)) _) | (refine Below.setCell ?_ (by first | omega | (simp; done) | (simp; omega)) _)))))).mono ?_; rintro e w2 ⟨rfl, b2⟩
                  simp only [World.size_alloc] at b2
                  have k2 : Blk w2 wr.heap.size 61 #[.int .i64 p.kind, .int .i64 p.times, .int .i64 (n : Int)] := (Blk.new _ _ _).below b2 (by first | omega | (simp; done) | (simp; omega))
                  obtain ⟨s0, s1, s2⟩ := k2.c3
                  have hb2 : Below w.heap.size w w2 := Below.trans (by (repeat (first | exact Below.refl _ _ | assumption | apply Below.drew | apply below_drewN | (refine Below.alloc ?_ (by first | omega | (simp; done) | (simp; omega)) _) | (refine Below.setCell ?_ (by first | omega | (simp; done) | (simp; omega)) _)))) (b2.mono (by first | omega | (simp; done) | (simp; omega)))
                  set_option maxRecDepth 10000 in go_wp2_with (first | (go_at_call 61; refine (spec_l14Kind _ _).mono ?_; rintro e _ ⟨rfl, rfl⟩) | (go_at_call 56; refine (spec_l00In _ _ _ _).mono ?_; rintro e _ ⟨rfl, rfl⟩))
                  go_ret2
                  rw [HN.out]
                  exact ⟨rfl, hb2⟩
                · have HQ : Hid (rangeP d (segP ps a b) = (rangeP d (segP ps (k + 1 + n) b)).map (fun q => (o) + q)) := Lib.hid (by rw [HR.out, HS.out, rangeP_open hk hd3 HGT.out (by rw [HT.out]; exact hin), HD.out, Option.map_map]; congr 1; funext q; simp [h0])
                  clear hk h0
                  set_option maxRecDepth 10000 in go_wp2_with (first | (go_at_call 61; refine (spec_l14Kind _ _).mono ?_; rintro e _ ⟨rfl, rfl⟩) | (go_at_call 56; refine (spec_l00In _ _ _ _).mono ?_; rintro e _ ⟨rfl, rfl⟩))
                  refine (HIC.out _ (h.below (by (repeat (first | exact Below.refl _ _ | assumption | apply Below.drew | apply below_drewN | (refine Below.alloc ?_ (by first | omega | (simp; done) | (simp; omega)) _) | (refine Below.setCell ?_ (by first | omega | (simp; done) | (simp; omega)) _)))))).mono ?_; rintro e w2 ⟨rfl, b2⟩
                  simp only [World.size_alloc] at b2
                  have k2 : Blk w2 wr.heap.size 61 #[.int .i64 p.kind, .int .i64 p.times, .int .i64 (n : Int)] := (Blk.new _ _ _).below b2 (by first | omega | (simp; done) | (simp; omega))
                  obtain ⟨s0, s1, s2⟩ := k2.c3
                  have hb2 : Below w.heap.size w w2 := Below.trans (by (repeat (first | exact Below.refl _ _ | assumption | apply Below.drew | apply below_drewN | (refine Below.alloc ?_ (by first | omega | (simp; done) | (simp; omega)) _) | (refine Below.setCell ?_ (by first | omega | (simp; done) | (simp; omega)) _)))) (b2.mono (by first | omega | (simp; done) | (simp; omega)))
                  set_option maxRecDepth 10000 in go_wp2_with (first | (go_at_call 61; refine (spec_l14Kind _ _).mono ?_; rintro e _ ⟨rfl, rfl⟩) | (go_at_call 56; refine (spec_l00In _ _ _ _).mono ?_; rintro e _ ⟨rfl, rfl⟩))
                  exact ⟨⟨k + 1 + n, o, by omega, by omega, by omega, by go_num, by go_num, HQ.out, hb2⟩, by simp [intOf]; omega⟩
        · have hd3' : decide ((3 : Int) ≤ (d : Int)) = true := decide_eq_true (by omega)
          have HN : Hid (rangeP d (segP ps a b) = none) := Lib.hid (by rw [HR.out, HS.out, rangeP_group hk (by omega)]; rfl)
          clear hk
          set_option maxRecDepth 10000 in go_wp2_with (first | (go_at_call 61; refine (spec_l14Kind _ _).mono ?_; rintro e _ ⟨rfl, rfl⟩) | (go_at_call 56; refine (spec_l00In _ _ _ _).mono ?_; rintro e _ ⟨rfl, rfl⟩))
          go_ret2
          rw [HN.out]
          exact ⟨rfl, by (repeat (first | exact Below.refl _ _ | assumption | apply Below.drew | apply below_drewN | (refine Below.alloc ?_ (by first | omega | (simp; done) | (simp; omega)) _) | (refine Below.setCell ?_ (by first | omega | (simp; done) | (simp; omega)) _)))⟩
      · have hk' : (p.kind != 12) = true := by simpa using hk
        cases t1 : isStitchB p.kind
        · have HN : Hid (rangeP d (segP ps a b) = none) := Lib.hid (by rw [HR.out, HS.out, rangeP_bad hk (by simp [plainP, t1])]; rfl)
          clear hk
          set_option maxRecDepth 10000 in go_wp2_with (first | (go_at_call 61; refine (spec_l14Kind _ _).mono ?_; rintro e _ ⟨rfl, rfl⟩) | (go_at_call 56; refine (spec_l00In _ _ _ _).mono ?_; rintro e _ ⟨rfl, rfl⟩))
          go_ret2
          rw [HN.out]
          exact ⟨rfl, by (repeat (first | exact Below.refl _ _ | assumption | apply Below.drew | apply below_drewN | (refine Below.alloc ?_ (by first | omega | (simp; done) | (simp; omega)) _) | (refine Below.setCell ?_ (by first | omega | (simp; done) | (simp; omega)) _)))⟩
        · cases t2 : inR p.times 1 16
          · have HN : Hid (rangeP d (segP ps a b) = none) := Lib.hid (by rw [HR.out, HS.out, rangeP_bad hk (by simp [plainP, t2])]; rfl)
            clear hk
            set_option maxRecDepth 10000 in go_wp2_with (first | (go_at_call 61; refine (spec_l14Kind _ _).mono ?_; rintro e _ ⟨rfl, rfl⟩) | (go_at_call 56; refine (spec_l00In _ _ _ _).mono ?_; rintro e _ ⟨rfl, rfl⟩))
            go_ret2
            rw [HN.out]
            exact ⟨rfl, by (repeat (first | exact Below.refl _ _ | assumption | apply Below.drew | apply below_drewN | (refine Below.alloc ?_ (by first | omega | (simp; done) | (simp; omega)) _) | (refine Below.setCell ?_ (by first | omega | (simp; done) | (simp; omega)) _)))⟩
          · by_cases t3 : p.len = 0
            · have HPL : Hid (rangeP d (segP ps k b) = rangeP d (segP ps (k + 1) b)) := Lib.hid (by rw [HS.out, rangeP_plain hk (by simp [plainP, t1, t2, t3])])
              have t3' : (p.len != 0) = false := by simp [t3]
              clear t3 hk
              set_option maxRecDepth 10000 in go_wp2_with (first | (go_at_call 61; refine (spec_l14Kind _ _).mono ?_; rintro e _ ⟨rfl, rfl⟩) | (go_at_call 56; refine (spec_l00In _ _ _ _).mono ?_; rintro e _ ⟨rfl, rfl⟩))
              exact ⟨⟨k + 1, o, by omega, by omega, by omega, rfl, by go_num, by rw [HR.out, HPL.out], by (repeat (first | exact Below.refl _ _ | assumption | apply Below.drew | apply below_drewN | (refine Below.alloc ?_ (by first | omega | (simp; done) | (simp; omega)) _) | (refine Below.setCell ?_ (by first | omega | (simp; done) | (simp; omega)) _)))⟩, by simp [intOf]; omega⟩
            · have t3' : (p.len != 0) = true := by simpa using t3
              have HN : Hid (rangeP d (segP ps a b) = none) := Lib.hid (by rw [HR.out, HS.out, rangeP_bad hk (by simp [plainP, t3])]; rfl)
              clear hk t3
              set_option maxRecDepth 10000 in go_wp2_with (first | (go_at_call 61; refine (spec_l14Kind _ _).mono ?_; rintro e _ ⟨rfl, rfl⟩) | (go_at_call 56; refine (spec_l00In _ _ _ _).mono ?_; rintro e _ ⟨rfl, rfl⟩))
              go_ret2
              rw [HN.out]
              exact ⟨rfl, by (repeat (first | exact Below.refl _ _ | assumption | apply Below.drew | apply below_drewN | (refine Below.alloc ?_ (by first | omega | (simp; done) | (simp; omega)) _) | (refine Below.setCell ?_ (by first | omega | (simp; done) | (simp; omega)) _)))⟩
    · go_wp2_with (fail)
      go_ret2
      have : k = b := by omega
      subst this
      have e := HR.out
      rw [segP_nil, rangeP_nil] at e
      rw [e]
      exact ⟨rfl, hb⟩

end Go.Proofs.YtifjdiiafofnpaaDoor
