/- Steps of the proof, joined from several texts: XA XB XD XE PO XF XG XK DA. -/
import Derived.Test.YtcgbogofmdjddaaDoorZ6
import Derived.Lib.AppendZerosOnto
import Derived.Lib.AppendZeros
import Derived.Test.YtcgbogofmdjddaaDoorZ1
import Derived.Deep.RegionHeld3
import Derived.Test.YtcgbogofmdjddaaDoorZ2
import Derived.Test.YtcgbogofmdjddaaDoorZ4
import Derived.Laws.BytesArg
import Derived.Laws.IdiomStrings

/- Charts: the plain functions of what is made of valid charts. -/
namespace Go.Proofs.YtcgbogofmdjddaaDoor
open Go.RowKit

theorem rowB_of {d r : Int} {s : List Int} (h : rowB d r s = true) : (d = 1 ∨ d = -1) ∧ (1 ≤ r ∧ r ≤ 4) ∧ stitchesB s = true ∧ s.length ≤ 16 := by
  unfold rowB dirB carrierB at h
  simp only [Bool.and_eq_true, Bool.or_eq_true, beq_iff_eq] at h
  refine ⟨h.1.1, inR_iff.1 h.1.2, h.2, ?_⟩
  have h2 := h.2
  unfold stitchesB at h2
  simp only [Bool.and_eq_true, decide_eq_true_eq] at h2
  exact h2.2
theorem rowsOk_rows {st : List Int} {rs : List RowD} (h : rowsOkB st rs = true) : ∀ r ∈ rs, rowB r.d r.r r.s = true := by
  induction rs generalizing st with
  | nil => intro r hr; simp at hr
  | cons q rs ih =>
    simp only [rowsOkB, rowOkB, Bool.and_eq_true] at h
    intro r hr
    rcases List.mem_cons.1 hr with rfl | hr
    · exact h.1.1.1
    · exact ih h.2 r hr
theorem chartB_of {n : Int} {rs : List RowD} (h : chartB n rs = true) : (1 ≤ n ∧ n ≤ 8) ∧ (1 ≤ rs.length ∧ rs.length ≤ 8) ∧ ∀ r ∈ rs, rowB r.d r.r r.s = true := by
  unfold chartB at h
  simp only [Bool.and_eq_true] at h
  have h1 := inR_iff.1 h.1.1
  have h2 := inR_iff.1 h.1.2
  exact ⟨h1, by omega, rowsOk_rows h.2⟩
theorem lenRows_le {rs : List RowD} {m : Nat} (h : ∀ r ∈ rs, r.s.length ≤ m) : lenRows rs ≤ rs.length * m := by
  induction rs with
  | nil => simp [lenRows]
  | cons x r ih =>
    have h1 := h x (by simp)
    have h2 := ih fun y hy => h y (by simp [hy])
    simp only [lenRows, List.length_cons, Nat.succ_mul]
    omega
theorem chart_size {n : Int} {rs : List RowD} (h : chartB n rs = true) : rs.length ≤ 8 ∧ lenRows rs ≤ 128 := by
  obtain ⟨_, h2, h3⟩ := chartB_of h
  have h4 := lenRows_le fun r hr => (rowB_of (h3 r hr)).2.2.2
  have h5 := Nat.mul_le_mul_right 16 h2.2
  omega
theorem ch_size {X : ChX} (h : X = ⟨0, []⟩ ∨ chartB X.n X.xs = true) : X.xs.length ≤ 9 ∧ cntRows X.xs ≤ 1000 := by
  rcases h with rfl | h
  · simp [cntRows, lenRows]
  · have := chart_size h
    unfold cntRows
    omega

def validCode (n : Int) (rs : List RowD) : Int := if chartB n rs then 0 else 1
def colsP (n : Int) (rs : List RowD) : List Int := (chartStacks n rs).map fun s => (s.length : Int)
theorem colsP_length (n : Int) (rs : List RowD) : (colsP n rs).length ≤ 8 := by
  have := (chartStacks_size n rs).1
  unfold colsP
  rw [List.length_map]
  exact this
theorem colsP_bad {n : Int} {rs : List RowD} (h : chartB n rs = false) : chartStacks n rs = [] ∧ colsP n rs = [] ∧ validCode n rs = 1 := by
  have h1 : chartStacks n rs = [] := by rw [chartStacks, if_neg (by rw [h]; decide)]
  exact ⟨h1, by rw [colsP, h1]; rfl, by rw [validCode, if_neg (by rw [h]; decide)]⟩
theorem colsP_good {n : Int} {rs : List RowD} (h : chartB n rs = true) : colsP n rs = (chartStacks n rs).map (fun s => (s.length : Int)) ∧ validCode n rs = 0 :=
  ⟨rfl, by rw [validCode, if_pos h]⟩

/-- A mirror's view. -/
def mirK (k : Int) : Int := if k = 4 then 5 else if k = 5 then 4 else if k = 8 then 9 else if k = 9 then 8 else if k = 10 then 11 else if k = 11 then 10 else if isStitchB k then k else 0
def mirRow (r : RowD) : RowD := ⟨-r.d, r.r, r.s.reverse.map mirK⟩
def mirX (n : Int) (rs : List RowD) : ChX := if chartB n rs then ⟨n, rs.map mirRow⟩ else ⟨0, []⟩
theorem lenRows_mir (rs : List RowD) : lenRows (rs.map mirRow) = lenRows rs := by
  induction rs with
  | nil => rfl
  | cons x r ih => simp [lenRows, ih, mirRow]
theorem mirX_size (n : Int) (rs : List RowD) : (mirX n rs).xs.length ≤ 9 ∧ cntRows (mirX n rs).xs ≤ 1000 := by
  unfold mirX
  split
  · rename_i h
    have := chart_size h
    have h2 := lenRows_mir rs
    unfold cntRows
    simp only [List.length_map]
    omega
  · simp [cntRows, lenRows]

/-- The number of columns behind the last row of a valid chart. -/
def lastOf (n : Int) (rs : List RowD) : Int := ((chartStacks n rs).getLast?.getD []).length
def stackCode (n : Int) (rs : List RowD) (m : Int) (ss : List RowD) : Int := if chartB n rs && chartB m ss then (if lastOf n rs = m then (if chartB n (rs ++ ss) then 0 else 5) else 10) else 1
def stackX (n : Int) (rs : List RowD) (m : Int) (ss : List RowD) : ChX := if stackCode n rs m ss = 0 then ⟨n, rs ++ ss⟩ else ⟨0, []⟩
theorem stack_err {n : Int} {rs : List RowD} {m : Int} {ss : List RowD} {k : Int} (e : stackCode n rs m ss = k) (hk : k ≠ 0) : stackX n rs m ss = ⟨0, []⟩ ∧ stackCode n rs m ss = k := ⟨by rw [stackX, if_neg (by rw [e]; exact hk)], e⟩
theorem stackX_size (n : Int) (rs : List RowD) (m : Int) (ss : List RowD) : (stackX n rs m ss).xs.length ≤ 9 ∧ cntRows (stackX n rs m ss).xs ≤ 1000 := by
  refine ch_size ?_
  unfold stackX
  split
  · rename_i h
    refine .inr ?_
    unfold stackCode at h
    split at h
    · split at h
      · split at h
        · assumption
        · simp at h
      · simp at h
    · simp at h
  · exact .inl rfl
def repRows : Nat → List RowD → List RowD
  | 0, _ => []
  | k + 1, rs => repRows k rs ++ rs
theorem repRows_length (k : Nat) (rs : List RowD) : (repRows k rs).length = k * rs.length := by
  induction k with
  | zero => simp [repRows]
  | succ k ih => rw [repRows, List.length_append, ih, Nat.succ_mul]
def repCode (n : Int) (rs : List RowD) (t : Int) : Int := if chartB n rs then (if inR t 1 8 then (if decide (1 < t) && !decide (lastOf n rs = n) then 10 else if chartB n (repRows t.toNat rs) then 0 else 5) else 2) else 1
def repX (n : Int) (rs : List RowD) (t : Int) : ChX := if repCode n rs t = 0 then ⟨n, repRows t.toNat rs⟩ else ⟨0, []⟩
theorem rep_err {n : Int} {rs : List RowD} {t : Int} {k : Int} (e : repCode n rs t = k) (hk : k ≠ 0) : repX n rs t = ⟨0, []⟩ ∧ repCode n rs t = k := ⟨by rw [repX, if_neg (by rw [e]; exact hk)], e⟩
theorem repX_size (n : Int) (rs : List RowD) (t : Int) : (repX n rs t).xs.length ≤ 9 ∧ cntRows (repX n rs t).xs ≤ 1000 := by
  refine ch_size ?_
  unfold repX
  split
  · rename_i h
    refine .inr ?_
    unfold repCode at h
    split at h
    · split at h
      · split at h
        · simp at h
        · split at h
          · assumption
          · simp at h
      · simp at h
    · simp at h
  · exact .inl rfl
/-- Two charts side by side. -/
def joinRow (a b : RowD) : RowD := ⟨a.d, a.r, a.s ++ b.s⟩
def joinRows : List RowD → List RowD → List RowD
  | [], _ => []
  | _, [] => []
  | a :: rs, b :: ss => joinRow a b :: joinRows rs ss
def sameHead (a b : RowD) : Bool := decide (a.d = b.d) && decide (a.r = b.r)
def sameHeads : List RowD → List RowD → Bool
  | [], _ => true
  | _, [] => true
  | a :: rs, b :: ss => sameHead a b && sameHeads rs ss
theorem joinRows_length (rs ss : List RowD) (h : rs.length = ss.length) : (joinRows rs ss).length = rs.length := by
  induction rs generalizing ss with
  | nil => simp [joinRows]
  | cons a rs ih =>
    cases ss with
    | nil => simp at h
    | cons b bs => simp [joinRows, ih bs (by simpa using h)]
def besCode (n : Int) (rs : List RowD) (m : Int) (ss : List RowD) : Int := if chartB n rs && chartB m ss then (if rs.length = ss.length then (if sameHeads rs ss then (if chartB (n + m) (joinRows rs ss) then 0 else 5) else 6) else 6) else 1
def besX (n : Int) (rs : List RowD) (m : Int) (ss : List RowD) : ChX := if besCode n rs m ss = 0 then ⟨n + m, joinRows rs ss⟩ else ⟨0, []⟩
theorem bes_err {n : Int} {rs : List RowD} {m : Int} {ss : List RowD} {k : Int} (e : besCode n rs m ss = k) (hk : k ≠ 0) : besX n rs m ss = ⟨0, []⟩ ∧ besCode n rs m ss = k := ⟨by rw [besX, if_neg (by rw [e]; exact hk)], e⟩
theorem besX_size (n : Int) (rs : List RowD) (m : Int) (ss : List RowD) : (besX n rs m ss).xs.length ≤ 9 ∧ cntRows (besX n rs m ss).xs ≤ 1000 := by
  refine ch_size ?_
  unfold besX
  split
  · rename_i h
    refine .inr ?_
    unfold besCode at h
    split at h
    · split at h
      · split at h
        · split at h
          · assumption
          · simp at h
        · simp at h
      · simp at h
    · simp at h
  · exact .inl rfl
/-- Cables. -/
def plainRow (s : List Int) : Bool := s.all fun k => !inR k 3 7
def plainB (rs : List RowD) : Bool := rs.all fun r => plainRow r.s
def cableB (n : Int) (rs : List RowD) : Bool := chartB n rs && plainB rs
def rowsWord (rs : List RowD) : List Int := rs.flatMap fun r => lettersFrom r.s 0
structure BrX where
  n : Int
  xs : List Int
def cbCode (n : Int) (rs : List RowD) : Int := if chartB n rs then (if plainB rs then (if (rowsWord rs).length ≤ 40 then 0 else 5) else 6) else 1
def cbX (n : Int) (rs : List RowD) : BrX := if cbCode n rs = 0 then ⟨n, rowsWord rs⟩ else ⟨0, []⟩
theorem cb_err {n : Int} {rs : List RowD} {k : Int} (e : cbCode n rs = k) (hk : k ≠ 0) : cbX n rs = ⟨0, []⟩ ∧ cbCode n rs = k := ⟨by rw [cbX, if_neg (by rw [e]; exact hk)], e⟩
theorem cbX_size (n : Int) (rs : List RowD) : (cbX n rs).xs.length ≤ 40 := by
  unfold cbX
  split
  · rename_i h
    unfold cbCode at h
    split at h
    · split at h
      · split at h
        · assumption
        · simp at h
      · simp at h
    · simp at h
  · simp

end Go.Proofs.YtcgbogofmdjddaaDoor

/- Charts: ColumnsAfter, StacksOf. -/
namespace Go.Proofs.YtcgbogofmdjddaaDoor
open Go.RowKit


end Go.Proofs.YtcgbogofmdjddaaDoor

/- Charts: slices.Grow, slices.Concat, copies of rows. -/
namespace Go.Proofs.YtcgbogofmdjddaaDoor
open Go.RowKit

/-- The cells at an address, wherever they lie. -/
def CellsAt (w : World) (A : Option Addr) (cs : List Value) : Prop := ∀ (j : Nat) (u : Value), cs[j]? = some u → ∃ b off, A = some ⟨b, off, none⟩ ∧ w.cell? ⟨b, off + j, none⟩ = some u
theorem CellsAt.of_cells {w w' : World} {A : Option Addr} {cs : List Value} (h : CellsAt w A cs) (hk : ∀ a v, w.cell? a = some v → w'.cell? a = some v) : CellsAt w' A cs :=
  fun j u hu => by obtain ⟨b, off, hA, hc⟩ := h j u hu; exact ⟨b, off, hA, hk _ _ hc⟩
theorem CellsAt.below {w w' : World} {A : Option Addr} {cs : List Value} (h : CellsAt w A cs) (hb : Below w.heap.size w w') : CellsAt w' A cs := h.of_cells (cells_below hb)
theorem OwnC.cellsAt {w : World} {lo hi : Nat} {e : TypeId} {sz : Nat} {A : Option Addr} {n c : Nat} {cs : List Value} (h : OwnC w lo hi e sz A n c cs) : CellsAt w A cs := by
  intro j u hu
  have hj := (List.getElem?_eq_some_iff.1 hu).1
  obtain ⟨g, hA, _, _, hc, _⟩ := h.cell hj
  refine ⟨g, 0, hA, ?_⟩
  rw [Nat.zero_add, hc, ← hu, List.getElem?_eq_getElem hj]
structure PartD where
  n : Nat
  cs : List Value
def partsN : List PartD → Nat
  | [] => 0
  | p :: r => p.n + partsN r
def partsC : List PartD → List Value
  | [] => []
  | p :: r => p.cs ++ partsC r
theorem partsN_append (a b : List PartD) : partsN (a ++ b) = partsN a + partsN b := by
  induction a with
  | nil => simp [partsN]
  | cons x r ih => simp [partsN, ih]; omega
theorem partsC_append (a b : List PartD) : partsC (a ++ b) = partsC a ++ partsC b := by
  induction a with
  | nil => simp [partsC]
  | cons x r ih => simp [partsC, ih]
theorem partsN_snoc {ps : List PartD} {k : Nat} {p : PartD} (h : ps[k]? = some p) : partsN (ps.take (k + 1)) = partsN (ps.take k) + p.n := by
  rw [take_snoc h, partsN_append]; simp [partsN]
theorem partsC_snoc {ps : List PartD} {k : Nat} {p : PartD} (h : ps[k]? = some p) : partsC (ps.take (k + 1)) = partsC (ps.take k) ++ p.cs := by
  rw [take_snoc h, partsC_append]; simp [partsC]
theorem partsN_take_le (ps : List PartD) (k : Nat) : partsN (ps.take k) ≤ partsN ps := by
  have := partsN_append (ps.take k) (ps.drop k)
  rw [List.take_append_drop] at this
  omega
theorem partsN_at {ps : List PartD} {k : Nat} {p : PartD} (h : ps[k]? = some p) : partsN (ps.take k) + p.n ≤ partsN ps := by
  rw [← partsN_snoc h]; exact partsN_take_le _ _
/-- A slice of slices, whose cells are known. -/
def SlicesAt (w : World) (A : Option Addr) (sz : Nat) (ps : List PartD) : Prop :=
  ∀ k, k < ps.length → ∃ b off A' c' p, A = some ⟨b, off, none⟩ ∧ ps[k]? = some p ∧ p.cs.length = p.n * sz ∧ (∀ u ∈ p.cs, u.oneCell' = true) ∧ w.cell? ⟨b, off + k, none⟩ = some (.slice A' p.n c') ∧ CellsAt w A' p.cs
theorem SlicesAt.of_cells {w w' : World} {A : Option Addr} {sz : Nat} {ps : List PartD} (h : SlicesAt w A sz ps) (hk : ∀ a v, w.cell? a = some v → w'.cell? a = some v) : SlicesAt w' A sz ps :=
  fun k hk' => by
    obtain ⟨b, off, A', c', p, hA, hx, hn, h1, hc, hi⟩ := h k hk'
    exact ⟨b, off, A', c', p, hA, hx, hn, h1, hk _ _ hc, hi.of_cells hk⟩
theorem SlicesAt.below {w w' : World} {A : Option Addr} {sz : Nat} {ps : List PartD} (h : SlicesAt w A sz ps) (hb : Below w.heap.size w w') : SlicesAt w' A sz ps := h.of_cells (cells_below hb)
def partOf (xs : List Int) : PartD := ⟨xs.length, xs.map (Value.int .i64)⟩
theorem partsN_of (xss : List (List Int)) : partsN (xss.map partOf) = cntII xss := by
  induction xss with
  | nil => rfl
  | cons x r ih => simp [partsN, cntII, partOf, ih]
theorem partsC_of (xss : List (List Int)) : partsC (xss.map partOf) = xss.flatten.map (Value.int .i64) := by
  induction xss with
  | nil => rfl
  | cons x r ih => simp [partsC, partOf, ih]
theorem length_flatten (xss : List (List Int)) : xss.flatten.length = cntII xss := by
  induction xss with
  | nil => rfl
  | cons x r ih => simp [cntII, ih]
theorem Ints2.slices {w : World} {A : Option Addr} {xss : List (List Int)} (h : Ints2 w A xss) : SlicesAt w A 1 (xss.map partOf) := by
  intro k hk
  obtain ⟨b, off, A', c', xs, hA, hx, hc, hi, _⟩ := h k (by simpa using hk)
  exact ⟨b, off, A', c', partOf xs, hA, by rw [List.getElem?_map, hx]; rfl, by simp [partOf], ints_one _, hc, hi.news⟩
theorem zeroCells_size (z : Array Value) (k : Nat) : (Builtin.zeroCells z k).size = k * z.size := by simp [Builtin.zeroCells]

/-- The rows whose cells these are; their slices are read where they lie. -/
def SrcRows (w : World) (cs : List Value) (rs : List RowD) : Prop :=
  cs.length = rs.length * 3 ∧ (∀ u ∈ cs, u.oneCell' = true) ∧ ∀ (k : Nat) (r : RowD), rs[k]? = some r → ∃ A' c', cs[k * 3]? = some (.int .i64 r.d) ∧ cs[k * 3 + 1]? = some (.int .i64 r.r) ∧ cs[k * 3 + 2]? = some (.slice A' r.s.length c') ∧ Ints w A' r.s ∧ r.s.length ≤ 9223372036854775807
theorem RowsR.src {w : World} {A : Option Addr} {rs : List RowD} (h : RowsR w A rs) : ∃ cs, CellsAt w A cs ∧ SrcRows w cs rs := by
  cases rs with
  | nil => exact ⟨[], fun j u hu => by simp at hu, rfl, fun u hu => by simp at hu, fun k r hr => by simp at hr⟩
  | cons r0 rs =>
    obtain ⟨b, off, hA⟩ : ∃ b off, A = some ⟨b, off, none⟩ := by
      obtain ⟨b, off, _, _, _, hA, _⟩ := h 0 (by simp)
      exact ⟨b, off, hA⟩
    subst hA
    generalize hrs : r0 :: rs = qs at h
    clear hrs r0 rs
    have at3 : ∀ k (hk : k < qs.length), ∃ A' c', w.cell? ⟨b, off + k * 3, none⟩ = some (.int .i64 qs[k].d) ∧ w.cell? ⟨b, off + k * 3 + 1, none⟩ = some (.int .i64 qs[k].r) ∧ w.cell? ⟨b, off + k * 3 + 2, none⟩ = some (.slice A' qs[k].s.length c') ∧ Ints w A' qs[k].s ∧ qs[k].s.length ≤ 9223372036854775807 := by
      intro k hk
      obtain ⟨b', off', A', c', r, hA, hx, h0, h1, h2, hi, hl⟩ := h k hk
      injection hA with hA
      injection hA with hb ho
      subst hb ho
      rw [List.getElem?_eq_getElem hk] at hx
      injection hx with hx
      subst hx
      exact ⟨A', c', h0, h1, h2, hi, hl⟩
    have some_at : ∀ j, j < qs.length * 3 → ∃ v, w.cell? ⟨b, off + j, none⟩ = some v ∧ v.oneCell' = true := by
      intro j hj
      obtain ⟨A', c', h0, h1, h2, _⟩ := at3 (j / 3) (by omega)
      have e : j = j / 3 * 3 ∨ j = j / 3 * 3 + 1 ∨ j = j / 3 * 3 + 2 := by omega
      rcases e with e | e | e
      · exact ⟨_, by rw [e]; exact h0, rfl⟩
      · exact ⟨_, by rw [e]; exact h1, rfl⟩
      · exact ⟨_, by rw [e]; exact h2, rfl⟩
    have hat : ∀ j, j < qs.length * 3 → ((List.range (qs.length * 3)).map fun j => (w.cell? ⟨b, off + j, none⟩).getD (.int .i64 0))[j]? = w.cell? ⟨b, off + j, none⟩ := by
      intro j hj
      obtain ⟨v, hv, _⟩ := some_at j hj
      rw [List.getElem?_map, List.getElem?_range hj]
      simp [hv]
    refine ⟨(List.range (qs.length * 3)).map fun j => (w.cell? ⟨b, off + j, none⟩).getD (.int .i64 0), ?_, by simp, ?_, ?_⟩
    · intro j u hu
      have hj : j < qs.length * 3 := by simpa using (List.getElem?_eq_some_iff.1 hu).1
      exact ⟨b, off, rfl, by rw [← hat j hj]; exact hu⟩
    · intro u hu
      obtain ⟨j, hj⟩ := List.getElem?_of_mem hu
      have hjl : j < qs.length * 3 := by simpa using (List.getElem?_eq_some_iff.1 hj).1
      obtain ⟨v, hv, h1⟩ := some_at j hjl
      rw [hat j hjl, hv] at hj
      injection hj with hj
      subst hj
      exact h1
    · intro k r hr
      have hk : k < qs.length := (List.getElem?_eq_some_iff.1 hr).1
      obtain ⟨A', c', h0, h1, h2, h3, h4⟩ := at3 k hk
      rw [List.getElem?_eq_getElem hk] at hr
      injection hr with hr
      subst hr
      exact ⟨A', c', by rw [hat _ (by omega)]; exact h0, by rw [hat _ (by omega)]; exact h1, by rw [hat _ (by omega)]; exact h2, h3, h4⟩
theorem CellsRows.storeT {w : World} {lo hi : Nat} {cs : List Value} {rs : List RowD} {lo2 hi2 : Nat} {e2 : TypeId} {sz2 : Nat} {g n2 c2 : Nat} {cs2 : List Value}
    (h : CellsRows w lo hi cs rs) (h2 : OwnC w lo2 hi2 e2 sz2 (some ⟨g, 0, none⟩) n2 c2 cs2) (ht : (2 : TypeId) ≠ e2) (j : Nat) (u : Value) : CellsRows (w.setCell ⟨g, j, none⟩ u) lo hi cs rs :=
  h.keepT fun k cur _ _ hk => Below.heap_setCell w ⟨g, j, none⟩ u k (by
    rintro rfl
    rcases h2.form with ⟨hA, _⟩ | ⟨q, cur2, hA, _, _, hh, _⟩
    · cases hA
    · injection hA with hA
      injection hA with hA
      subst hA
      rw [hk] at hh
      injection hh with hh
      injection hh with _ hh
      exact ht hh)


end Go.Proofs.YtcgbogofmdjddaaDoor

/- Charts: ifChart, the last columns, own copies. -/
namespace Go.Proofs.YtcgbogofmdjddaaDoor
open Go.RowKit

theorem chartStacks_last {n : Int} {rs : List RowD} (h : chartB n rs = true) : ∃ m xs, (chartStacks n rs).length = m + 1 ∧ (chartStacks n rs)[m]? = some xs ∧ lastOf n rs = (xs.length : Int) := by
  have h1 := (chartB_of h).2.1.1
  have h2 : (chartStacks n rs).length = rs.length := by rw [chartStacks, if_pos h, stacksFrom_length]
  obtain ⟨m, hm⟩ : ∃ m, (chartStacks n rs).length = m + 1 := ⟨rs.length - 1, by omega⟩
  obtain ⟨xs, hx⟩ : ∃ xs, (chartStacks n rs)[m]? = some xs := ⟨_, List.getElem?_eq_getElem (by omega)⟩
  refine ⟨m, xs, hm, hx, ?_⟩
  unfold lastOf
  rw [List.getLast?_eq_getElem?, hm, Nat.add_sub_cancel, hx]
  rfl


end Go.Proofs.YtcgbogofmdjddaaDoor

/- A region that draws its order and whose last operation waits for all the others: it is carried out last. -/
namespace Go.Proofs.YtcgbogofmdjddaaDoor
open Go Go.RowKit

/-- What is left to do behind the region's other operations: these, one after the other. -/
def QTail (P : Program) (T : List Oper) (Q : Exit → Act → World → Prop) : Exit → Act → World → Prop
  | .normal, a, w => wpList P #[] Q T a w
  | e, a, w => Q e a w
def popB (ops : Array Oper) : Bool :=
  ops.toList.all (fun x => x.guard.isNone) &&
  (List.range ops.size).all (fun i => match ops[i]? with | some x => x.after.toList.all (fun e => !Region.binds .any e || decide (e.on < i)) | none => false) &&
  (List.range (ops.size - 1)).all (fun i => (List.range ops.size).any fun j => decide (i < j) && (match ops[j]? with | some x => x.after.toList.any (fun e => Region.binds .any e && decide (e.on = i)) | none => false))
theorem pop_guard {ops : Array Oper} (h : popB ops = true) {i : Nat} {x : Oper} (hx : ops[i]? = some x) : x.guard = none := by
  unfold popB at h
  simp only [Bool.and_eq_true, List.all_eq_true] at h
  have := h.1.1 x (by rw [Array.mem_toList_iff]; exact Array.mem_of_getElem? hx)
  simpa using this
theorem pop_low {ops : Array Oper} (h : popB ops = true) {i : Nat} {x : Oper} (hx : ops[i]? = some x) : ∀ e ∈ x.after, Region.binds .any e = true → e.on < i := by
  unfold popB at h
  simp only [Bool.and_eq_true, List.all_eq_true] at h
  have hi : i < ops.size := (Array.getElem?_eq_some_iff.1 hx).1
  have := h.1.2 i (by simpa using hi)
  rw [hx] at this
  simp only [List.all_eq_true, Bool.or_eq_true, Bool.not_eq_true', decide_eq_true_eq] at this
  intro e he hb
  rcases this e (by rw [Array.mem_toList_iff]; exact he) with h | h
  · rw [hb] at h; cases h
  · exact h
theorem pop_wait {ops : Array Oper} (h : popB ops = true) {i : Nat} (hi : i < ops.size - 1) : ∃ j x e, i < j ∧ ops[j]? = some x ∧ e ∈ x.after ∧ Region.binds .any e = true ∧ e.on = i := by
  unfold popB at h
  simp only [Bool.and_eq_true, List.all_eq_true] at h
  have := h.2 i (by simpa using hi)
  obtain ⟨j, hj, hb⟩ := List.any_eq_true.1 this
  simp only [Bool.and_eq_true, decide_eq_true_eq] at hb
  obtain ⟨hij, hb⟩ := hb
  cases hx : ops[j]? with
  | none => rw [hx] at hb; cases hb
  | some x =>
    rw [hx] at hb
    obtain ⟨e, he, hb⟩ := List.any_eq_true.1 hb
    simp only [Bool.and_eq_true, decide_eq_true_eq] at hb
    exact ⟨j, x, e, hij, hx, by rw [← Array.mem_toList_iff]; exact he, hb.1, hb.2⟩

structure PopRel (ops : Array Oper) (l l' : Array Bool) : Prop where
  s : l.size = ops.size
  s' : l'.size + 1 = ops.size
  same : ∀ i, i < l'.size → l[i]? = l'[i]?
  last : l[l'.size]? = some false
  closed : ∀ i x, i < l'.size → l[i]? = some true → ops[i]? = some x → ∀ e ∈ x.after, Region.binds .any e = true → l[e.on]? = some true
theorem getD_f {l : Array Bool} {i : Nat} : l.getD i true = false ↔ l[i]? = some false := by
  rw [Array.getD_eq_getD_getElem?]
  cases l[i]? with
  | none => simp
  | some b => simp
theorem getD_t {l : Array Bool} {i : Nat} : l.getD i false = true ↔ l[i]? = some true := by
  rw [Array.getD_eq_getD_getElem?]
  cases l[i]? with
  | none => simp
  | some b => simp
theorem ready_iff {md : Region.Mode} {ops : Array Oper} {l : Array Bool} {i : Nat} : i ∈ Region.ready md ops l ↔ l[i]? = some false ∧ ∃ x, ops[i]? = some x ∧ ∀ e ∈ x.after, Region.binds md e = true → l[e.on]? = some true := by
  rw [mem_ready, getD_f]
  constructor
  · rintro ⟨h1, x, hx, h2⟩; exact ⟨h1, x, hx, fun e he hb => getD_t.1 (h2 e he hb)⟩
  · rintro ⟨h1, x, hx, h2⟩; exact ⟨h1, x, hx, fun e he hb => getD_t.2 (h2 e he hb)⟩
section
variable {P : Program} {ops : Array Oper} {Q : Exit → Act → World → Prop} {l l' : Array Bool}
theorem pop_at {i : Nat} (hi : i < ops.size - 1) : ops.pop[i]? = ops[i]? := by
  rw [Array.getElem?_pop]
  simp [hi]
theorem PopRel.ready (h : PopRel ops l l') (hp : popB ops = true) {i : Nat} (hi : i < l'.size) : i ∈ Region.ready .any ops.pop l' ↔ i ∈ Region.ready .any ops l := by
  have hs := h.s'
  rw [ready_iff, ready_iff, pop_at (by omega), h.same i hi]
  constructor
  · rintro ⟨h1, x, hx, h2⟩
    exact ⟨h1, x, hx, fun e he hb => by have := pop_low hp hx e he hb; rw [h.same _ (by omega)]; exact h2 e he hb⟩
  · rintro ⟨h1, x, hx, h2⟩
    exact ⟨h1, x, hx, fun e he hb => by have := pop_low hp hx e he hb; rw [← h.same _ (by omega)]; exact h2 e he hb⟩
theorem PopRel.all_of_last (h : PopRel ops l l') (hp : popB ops = true) (hn : l'.size ∈ Region.ready .any ops l) : ∀ i, i < l'.size → l[i]? = some true := by
  have hs := h.s'
  have key : ∀ m i, l'.size - i ≤ m → i < l'.size → l[i]? = some true := by
    intro m
    induction m with
    | zero => intro i h1 h2; omega
    | succ m ih =>
      intro i h1 h2
      obtain ⟨j, x, e, hij, hx, he, hb, hon⟩ := pop_wait hp (i := i) (by omega)
      have hj : j < ops.size := (Array.getElem?_eq_some_iff.1 hx).1
      by_cases hjn : j = l'.size
      · subst hjn
        obtain ⟨_, y, hy, h3⟩ := ready_iff.1 hn
        rw [hx] at hy
        injection hy with hy
        subst hy
        rw [← hon]
        exact h3 e he hb
      · have := ih j (by omega) (by omega)
        rw [← hon]
        exact h.closed j x (by omega) this hx e he hb
  intro i hi
  exact key l'.size i (by omega) hi
theorem PopRel.all_of_none (h : PopRel ops l l') (hp : popB ops = true) (hn : Region.ready .any ops.pop l' = []) : ∀ i, i < l'.size → l[i]? = some true := by
  have hs := h.s'
  intro i
  induction i using Nat.strongRecOn with
  | ind i ih =>
    intro hi
    have hx : ops[i]? = some ops[i] := Array.getElem?_eq_getElem (by omega)
    have hl : l[i]? = some (l[i]'(by rw [h.s]; omega)) := Array.getElem?_eq_getElem (by rw [h.s]; omega)
    cases hb : l[i]'(by rw [h.s]; omega) with
    | true => rw [hl, hb]
    | false =>
      rw [hb] at hl
      have : i ∈ Region.ready .any ops l := ready_iff.2 ⟨hl, _, hx, fun e he hb => by have := pop_low hp hx e he hb; exact ih _ this (by omega)⟩
      rw [← h.ready hp hi, hn] at this
      cases this
theorem PopRel.last_ready (h : PopRel ops l l') (hp : popB ops = true) (ha : ∀ i, i < l'.size → l[i]? = some true) : l'.size ∈ Region.ready .any ops l := by
  have hs := h.s'
  have hx : ops[l'.size]? = some (ops[l'.size]'(by omega)) := Array.getElem?_eq_getElem (by omega)
  exact ready_iff.2 ⟨h.last, _, hx, fun e he hb => ha _ (pop_low hp hx e he hb)⟩
theorem PopRel.step (h : PopRel ops l l') {i : Nat} (hi : i < l'.size) (hr : i ∈ Region.ready .any ops l) : PopRel ops (l.setIfInBounds i true) (l'.setIfInBounds i true) := by
  have hs := h.s
  have hs' := h.s'
  have at_ : ∀ j : Nat, l[j]? = some true → (l.setIfInBounds i true)[j]? = some true := by
    intro j hj
    rw [Array.getElem?_setIfInBounds]
    split
    · rename_i e; subst e; rw [if_pos (by omega)]
    · exact hj
  refine ⟨by simpa using hs, by simpa using hs', fun j hj => ?_, ?_, fun j x hj hl hx e he hb => ?_⟩
  · simp only [Array.size_setIfInBounds] at hj
    rw [Array.getElem?_setIfInBounds, Array.getElem?_setIfInBounds]
    split
    · rw [if_pos (by omega)]
    · exact h.same j hj
  · simp only [Array.size_setIfInBounds]
    rw [Array.getElem?_setIfInBounds, if_neg (by omega)]
    exact h.last
  · simp only [Array.size_setIfInBounds] at hj
    rw [Array.getElem?_setIfInBounds] at hl
    split at hl
    · rename_i e'
      subst e'
      obtain ⟨_, y, hy, h3⟩ := ready_iff.1 hr
      rw [hx] at hy
      injection hy with hy
      subst hy
      exact at_ _ (h3 e he hb)
    · exact at_ _ (h.closed j x hj hl hx e he hb)
theorem Oper.wp_le {o : Oper} {a : Act} {w : World} {K K' : Act → World → Prop} {Q' : Exit → Act → World → Prop} (hk : ∀ a w, K a w → K' a w) (hp : ∀ c a w, Q (.panic c) a w → Q' (.panic c) a w) (hout : LetsOut Q → LetsOut Q')
    (hh : o.wp P a w K Q) : o.wp P a w K' Q' := by
  unfold Oper.wp at *
  generalize (execOp a.eval o).run P w = r at *
  cases r with
  | ok n w' =>
    cases n <;> simp only [Oper.upon] at hh ⊢ <;>
      first
        | exact hk _ _ hh
        | exact Calls.mono hh (fun e w'' he => by cases e <;> first | exact hk _ _ he | exact hout he | exact hp _ _ _ he)
        | exact Rows.mono hh (fun _ _ he => hk _ _ he)
  | halt x w' => cases x <;> simp only [Oper.upon] at hh ⊢ <;> exact hp _ _ _ hh
theorem wpOp_le {i : Nat} {a : Act} {w : World} {K K' : Act → World → Prop} {Q' : Exit → Act → World → Prop} (hk : ∀ a w, K a w → K' a w) (hp : ∀ c a w, Q (.panic c) a w → Q' (.panic c) a w) (hout : LetsOut Q → LetsOut Q')
    (hh : wpOp P ops Q i K a w) : wpOp P ops Q' i K' a w := by
  unfold wpOp at *
  split
  · rename_i hx
    rw [hx] at hh
    exact hk _ _ hh
  · rename_i o ho
    simp only [ho] at hh
    split
    · rename_i hw
      simp only [hw, if_true] at hh
      exact hh.imp (Oper.wp_le hk hp hout) fun h => ⟨h.1, hout h.2⟩
    · rename_i hw
      simp only [hw] at hh
      exact hk _ _ hh
theorem wpAny_le {Q' : Exit → Act → World → Prop} {md : Region.Mode} (hn : ∀ a w, Q .normal a w → Q' .normal a w) (hp : ∀ c a w, Q (.panic c) a w → Q' (.panic c) a w) (hout : LetsOut Q → LetsOut Q') :
    ∀ (fuel : Nat) (l : Array Bool) (a : Act) (w : World), wpAny P md ops Q fuel l a w → wpAny P md ops Q' fuel l a w
  | 0, _, _, _, h => ⟨h.1, hn _ _ h.2⟩
  | fuel + 1, _, _, _, h => ⟨fun h0 => hn _ _ (h.1 h0), fun i hi => wpOp_le (fun _ _ h' => wpAny_le hn hp hout fuel _ _ _ h') hp hout (h.2 i hi)⟩
theorem wpList_join {T : List Oper} {o : Oper} (hg : ∀ x ∈ T, x.guard = none) : ∀ (a : Act) (w : World), wpList P #[] Q (T ++ [o]) a w → wpList P #[] (QTail P [o] Q) T a w := by
  induction T with
  | nil => intro a w h; exact h
  | cons x T ih =>
    intro a w h
    rw [List.cons_append] at h
    unfold wpList at h ⊢
    have hw : Region.wanted x (yielded #[] a.tmps) = true := by simp [Region.wanted, hg x (by simp)]
    simp only [hw, if_true] at h ⊢
    exact h.imp (Oper.wp_le (ih fun y hy => hg y (by simp [hy])) (fun _ _ _ h => h) (fun ⟨a, w, h⟩ => ⟨a, w, h⟩)) fun h => ⟨h.1, h.2.imp fun a h => h.imp fun w h => h⟩
theorem pop_fin {o : Oper} (h : PopRel ops l l') (hp : popB ops = true) (ho : ops[l'.size]? = some o) (ha : ∀ i, i < l'.size → l[i]? = some true) {a : Act} {w : World} (hq : wpList P #[] Q [o] a w) (fuel : Nat) :
    wpOp P ops Q l'.size (wpAny P .any ops Q fuel (l.setIfInBounds l'.size true)) a w := by
  have hg := pop_guard hp ho
  have hr : Region.ready .any ops (l.setIfInBounds l'.size true) = [] := by
    apply List.eq_nil_iff_forall_not_mem.2
    intro i hi
    obtain ⟨h1, x, hx, _⟩ := ready_iff.1 hi
    rw [Array.getElem?_setIfInBounds] at h1
    split at h1
    · split at h1
      · cases h1
      · cases h1
    · have hil : i < ops.size := (Array.getElem?_eq_some_iff.1 hx).1
      have hs := h.s'
      rw [ha i (by omega)] at h1
      cases h1
  have fin : ∀ a w, Q .normal a w → wpAny P .any ops Q fuel (l.setIfInBounds l'.size true) a w := by
    intro a w hq
    cases fuel with
    | zero => exact ⟨hr, hq⟩
    | succ fuel => exact ⟨fun _ => hq, by rw [hr]; simp⟩
  unfold wpOp
  rw [ho]
  have hw : Region.wanted o (yielded ops a.tmps) = true := by simp [Region.wanted, hg]
  have hw0 : Region.wanted o (yielded #[] a.tmps) = true := by simp [Region.wanted, hg]
  simp only [hw, if_true]
  unfold wpList at hq
  simp only [hw0, if_true] at hq
  rcases hq with hq | hq
  · exact .inl (Oper.wp_mono fin hq)
  · exact .inr hq
theorem wpAny_pop {o : Oper} (hp : popB ops = true) (ho : ops[ops.size - 1]? = some o) : ∀ (fuel : Nat) (l l' : Array Bool) (a : Act) (w : World), PopRel ops l l' →
    wpAny P .any ops.pop (QTail P [o] Q) fuel l' a w → wpAny P .any ops Q (fuel + 1) l a w := by
  intro fuel
  induction fuel with
  | zero =>
    intro l l' a w h H
    have hs := h.s'
    have ha := h.all_of_none hp H.1
    have hn := h.last_ready hp ha
    have ho' : ops[l'.size]? = some o := by rw [← ho]; congr 1; omega
    refine ⟨fun h0 => (by rw [h0] at hn; cases hn), fun i hi => ?_⟩
    obtain ⟨h1, x, hx, _⟩ := ready_iff.1 hi
    have hil : i < ops.size := (Array.getElem?_eq_some_iff.1 hx).1
    have : i = l'.size := by
      rcases Nat.lt_or_ge i l'.size with hlt | hge
      · rw [ha i hlt] at h1; cases h1
      · omega
    subst this
    exact pop_fin h hp ho' ha H.2 0
  | succ fuel ih =>
    intro l l' a w h H
    have hs := h.s'
    have ho' : ops[l'.size]? = some o := by rw [← ho]; congr 1; omega
    refine ⟨fun h0 => ?_, fun i hi => ?_⟩
    · have hn : Region.ready .any ops.pop l' = [] := by
        apply List.eq_nil_iff_forall_not_mem.2
        intro i hi
        have hil : i < l'.size := by
          have h1 := (ready_iff.1 hi).1
          exact (Array.getElem?_eq_some_iff.1 h1).1
        rw [h.ready hp hil, h0] at hi
        cases hi
      have := h.last_ready hp (h.all_of_none hp hn)
      rw [h0] at this
      cases this
    · have hil : i < l.size := by
        have h1 := (ready_iff.1 hi).1
        exact (Array.getElem?_eq_some_iff.1 h1).1
      have hsz := h.s
      by_cases hin : i = l'.size
      · subst hin
        have ha := h.all_of_last hp hi
        have hn : Region.ready .any ops.pop l' = [] := by
          apply List.eq_nil_iff_forall_not_mem.2
          intro i hi
          have h1 := (ready_iff.1 hi).1
          have hil : i < l'.size := (Array.getElem?_eq_some_iff.1 h1).1
          rw [← h.same i hil, ha i hil] at h1
          cases h1
        exact pop_fin h hp ho' ha (H.1 hn) (fuel + 1)
      · have hlt : i < l'.size := by omega
        have h2 := H.2 i ((h.ready hp hlt).2 hi)
        have hx : ops[i]? = some (ops[i]'(by omega)) := Array.getElem?_eq_getElem (by omega)
        have hg := pop_guard hp hx
        unfold wpOp at h2 ⊢
        rw [pop_at (by omega), hx] at h2
        rw [hx]
        have hw1 : Region.wanted (ops[i]'(by omega)) (yielded ops.pop a.tmps) = true := by simp [Region.wanted, hg]
        have hw2 : Region.wanted (ops[i]'(by omega)) (yielded ops a.tmps) = true := by simp [Region.wanted, hg]
        simp only [hw1, if_true] at h2
        simp only [hw2, if_true]
        rcases h2 with h2 | ⟨h2, h3⟩
        · exact .inl (Oper.wp_le (fun a w hk => ih _ _ a w (h.step hlt hi) hk) (fun _ _ _ h => h) (fun ⟨a, w, h⟩ => ⟨a, w, h⟩) h2)
        · exact .inr ⟨h2, h3⟩
theorem PopRel.start (hpos : 0 < ops.size) : PopRel ops (Array.replicate ops.size false) (Array.replicate (ops.size - 1) false) := by
  refine ⟨by simp, by simp; omega, fun i hi => ?_, ?_, fun i x hi hl => ?_⟩
  · simp at hi
    simp [Array.getElem?_replicate, hi]
    omega
  · simp [Array.getElem?_replicate]
    omega
  · simp [Array.getElem?_replicate] at hl
/-- The region without its last k operations. -/
def pops : Nat → Array Oper → Array Oper
  | 0, ops => ops
  | k + 1, ops => pops k ops.pop
def popsB : Nat → Array Oper → Bool
  | 0, _ => true
  | k + 1, ops => popB ops && decide (0 < ops.size) && popsB k ops.pop
def tailOf : Nat → Array Oper → List Oper
  | 0, _ => []
  | k + 1, ops => tailOf k ops.pop ++ (ops.back?).toList
theorem tailOf_guard {k : Nat} : ∀ {ops : Array Oper}, popsB k ops = true → ∀ x ∈ tailOf k ops, x.guard = none := by
  induction k with
  | zero => intro ops _ x hx; simp [tailOf] at hx
  | succ k ih =>
    intro ops h x hx
    simp only [popsB, Bool.and_eq_true] at h
    simp only [tailOf, List.mem_append] at hx
    rcases hx with hx | hx
    · exact ih h.2 x hx
    · simp only [Option.mem_toList] at hx
      exact pop_guard h.1.1 (i := ops.size - 1) (by rw [← Array.back?_eq_getElem?]; exact hx)
theorem wpAny_pops {k : Nat} : ∀ {ops : Array Oper} {Q : Exit → Act → World → Prop} {a : Act} {w : World}, popsB k ops = true →
    wpAny P .any (pops k ops) (QTail P (tailOf k ops) Q) (ops.size - k) (Array.replicate (ops.size - k) false) a w → wpAny P .any ops Q ops.size (Array.replicate ops.size false) a w := by
  induction k with
  | zero => intro ops Q a w _ h; exact wpAny_le (Q := QTail P (tailOf 0 ops) Q) (Q' := Q) (fun _ _ h => h) (fun _ _ _ h => h) (fun ⟨a, w, h⟩ => ⟨a, w, h⟩) _ _ _ _ h
  | succ k ih =>
    intro ops Q a w hp h
    simp only [popsB, Bool.and_eq_true, decide_eq_true_eq] at hp
    obtain ⟨⟨hp1, hpos⟩, hp2⟩ := hp
    obtain ⟨o, ho⟩ : ∃ o, ops[ops.size - 1]? = some o := ⟨_, Array.getElem?_eq_getElem (by omega)⟩
    have hb : ops.back? = some o := by rw [Array.back?_eq_getElem?]; exact ho
    have h1 : wpAny P .any ops.pop (QTail P [o] Q) ops.pop.size (Array.replicate ops.pop.size false) a w := by
      refine ih hp2 ?_
      have e : ops.pop.size - k = ops.size - (k + 1) := by simp; omega
      rw [e]
      refine wpAny_le (Q := QTail P (tailOf (k + 1) ops) Q) (Q' := QTail P (tailOf k ops.pop) (QTail P [o] Q)) (fun a w hn => ?_) (fun _ _ _ h => h) (fun ⟨a, w, h⟩ => ⟨a, w, h⟩) _ _ _ _ h
      have hn' : wpList P #[] Q (tailOf k ops.pop ++ [o]) a w := by
        have : wpList P #[] Q (tailOf k ops.pop ++ (ops.back?).toList) a w := hn
        rwa [hb] at this
      exact wpList_join (tailOf_guard hp2) a w hn'
    have h2 := wpAny_pop (Q := Q) hp1 ho ops.pop.size (Array.replicate ops.size false) (Array.replicate ops.pop.size false) a w (by rw [Array.size_pop]; exact PopRel.start hpos) h1
    have e : ops.pop.size + 1 = ops.size := by simp; omega
    rwa [e] at h2
/-- The beginning of such a region: its last k operations are carried out last, one after the other. -/
theorem wp_region_pops (k : Nat) {S : World → Prop} {id : Nat} {a : Act} {w : World} {pre : Array Oper} {T : List Oper} {n : Nat} (hm : P.follows .mixedOrders = true) (hp : popsB k ops = true)
    (hpre : pops k ops = pre) (hT : tailOf k ops = T) (hn : ops.size - k = n) (hS : S w.drew)
    (h : S w.drew → wpAnyH P .any pre (QTail P T Q) S n (Array.replicate n false) a w.drew) : (Code.region id ops true).wp P Q a w := by
  subst hpre hT hn
  exact wp_region_any hm (wpAny_pops hp (wpAny_of_held _ _ _ _ (h hS)))
end

end Go.Proofs.YtcgbogofmdjddaaDoor

/- Charts: own copies, the given side. -/
namespace Go.Proofs.YtcgbogofmdjddaaDoor
open Go Go.RowKit


end Go.Proofs.YtcgbogofmdjddaaDoor

/- Charts: StackCharts. -/
namespace Go.Proofs.YtcgbogofmdjddaaDoor
open Go Go.RowKit

/-- Rows behind rows, their stitches in blocks of their own. -/
theorem CellsRows.append {w : World} {lo m hi : Nat} {cs ds : List Value} {rs ss : List RowD} (h : CellsRows w lo m cs rs) (h' : CellsRows w m hi ds ss) (h1 : lo ≤ m) (h2 : m ≤ hi) : CellsRows w lo hi (cs ++ ds) (rs ++ ss) := by
  have hB : ∀ {i : Nat} {v : Value} {g : Nat}, cs[i]? = some v → v.ownBlock = some g → g < m := fun hi' hv => (h.block hi' hv).2.1
  have hC : ∀ {i : Nat} {v : Value} {g : Nat}, ds[i]? = some v → v.ownBlock = some g → m ≤ g := fun hi' hv => (h'.block hi' hv).1
  obtain ⟨ha, hb, hc⟩ := h
  obtain ⟨ha', hb', hc'⟩ := h'
  refine ⟨by simp [ha, ha']; omega, fun k q hq => ?_, fun i j v v' g hi' hj hv hv' => ?_⟩
  · rcases Nat.lt_or_ge k rs.length with hk | hk
    · rw [List.getElem?_append_left hk] at hq
      obtain ⟨A2, c2, e0, e1, e2, e3⟩ := hb k q hq
      exact ⟨A2, c2, by rw [List.getElem?_append_left (by omega)]; exact e0, by rw [List.getElem?_append_left (by omega)]; exact e1, by rw [List.getElem?_append_left (by omega)]; exact e2, e3.mono (Nat.le_refl _) h2⟩
    · rw [List.getElem?_append_right hk] at hq
      obtain ⟨A2, c2, e0, e1, e2, e3⟩ := hb' _ q hq
      refine ⟨A2, c2, ?_, ?_, ?_, e3.mono h1 (Nat.le_refl _)⟩
      · rw [List.getElem?_append_right (by omega), show k * 3 - cs.length = (k - rs.length) * 3 by omega]; exact e0
      · rw [List.getElem?_append_right (by omega), show k * 3 + 1 - cs.length = (k - rs.length) * 3 + 1 by omega]; exact e1
      · rw [List.getElem?_append_right (by omega), show k * 3 + 2 - cs.length = (k - rs.length) * 3 + 2 by omega]; exact e2
  · rcases Nat.lt_or_ge i cs.length with ei | ei
    · rw [List.getElem?_append_left ei] at hi'
      rcases Nat.lt_or_ge j cs.length with ej | ej
      · rw [List.getElem?_append_left ej] at hj
        exact hc i j v v' g hi' hj hv hv'
      · rw [List.getElem?_append_right ej] at hj
        have := hB hi' hv
        have := hC hj hv'
        omega
    · rw [List.getElem?_append_right ei] at hi'
      rcases Nat.lt_or_ge j cs.length with ej | ej
      · rw [List.getElem?_append_left ej] at hj
        have := hC hi' hv
        have := hB hj hv'
        omega
      · rw [List.getElem?_append_right ej] at hj
        have := hc' _ _ v v' g hi' hj hv hv'
        omega
theorem CellsRows.one {w : World} {lo hi : Nat} {cs : List Value} {rs : List RowD} (h : CellsRows w lo hi cs rs) : ∀ u ∈ cs, u.oneCell' = true := by
  intro u hu
  obtain ⟨i, hi⟩ := List.getElem?_of_mem hu
  have hil : i < cs.length := (List.getElem?_eq_some_iff.1 hi).1
  have hl := h.1
  obtain ⟨A', c', h0, h1, h2, _⟩ := h.2.1 (i / 3) _ (List.getElem?_eq_getElem (by omega))
  have : i = i / 3 * 3 ∨ i = i / 3 * 3 + 1 ∨ i = i / 3 * 3 + 2 := by omega
  rcases this with e | e | e
  · rw [← e, hi] at h0; injection h0 with h0; subst h0; rfl
  · rw [← e, hi] at h1; injection h1 with h1; subst h1; rfl
  · rw [← e, hi] at h2; injection h2 with h2; subst h2; rfl
theorem RowsR.drew1 {w : World} {A : Option Addr} {rs : List RowD} (h : RowsR w A rs) : RowsR (World.drew w) A rs := h
theorem Blk.drew1 {w : World} {g : Nat} {t : TypeId} {cs : Array Value} (h : Blk w g t cs) : Blk (World.drew w) g t cs := h
theorem lens_of_chart {n : Int} {rs : List RowD} (h : chartB n rs = true) : rs.length ≤ 8 ∧ ∀ r ∈ rs, r.s.length ≤ 16 := ⟨(chart_size h).1, fun r hr => (rowB_of ((chartB_of h).2.2 r hr)).2.2.2⟩
theorem stackCode_1 {n m : Int} {rs ss : List RowD} (h : chartB n rs = false ∨ chartB m ss = false) : stackCode n rs m ss = 1 := by
  unfold stackCode
  rw [if_neg (by rcases h with h | h <;> simp [h])]
theorem stackCode_2 {n m : Int} {rs ss : List RowD} (h1 : chartB n rs = true) (h2 : chartB m ss = true) : stackCode n rs m ss = if lastOf n rs = m then (if chartB n (rs ++ ss) then 0 else 5) else 10 := by
  unfold stackCode
  rw [if_pos (by simp [h1, h2])]


end Go.Proofs.YtcgbogofmdjddaaDoor

/- Charts: one inner slice of rows grows; the plain law of charts side by side. -/
namespace Go.Proofs.YtcgbogofmdjddaaDoor
open Go Go.RowKit

/-- append of some cells that stand in memory; where the new slice lies. -/
theorem wp_appendC_at {P : Program} (w : World) {o : Oper} {a : Act} {K : Act → World → Prop} {Q : Exit → Act → World → Prop} (s x : Operand) (t : TypeId)
    (hop : o.op = .call { callee := .builtin .append, args := #[s, x], argTypes := #[t, t] })
    (e : TypeId) (i : TypeInfo) (z : Value) (size bytes : Nat) (ht : P.underlying t = some (.slice e)) (hi : P.info? e = some i) (hz : i.zero = some z)
    (hsize : i.size = size) (hby : i.bytes = bytes) (hzs : z.cells.size = size) (hsz : 0 < size)
    {lo hi' n c : Nat} {A : Option Addr} {cs : List Value} (hs : a.eval s = .slice A n c) (hown : OwnC w lo hi' e size A n c cs) (hlo : lo ≤ w.heap.size)
    (A2 : Option Addr) (m c2 : Nat) (news : List Value) (hx : a.eval x = .slice A2 m c2) (hl : news.length = m * size)
    (hnews : ∀ j u, news[j]? = some u → ∃ b off, A2 = some ⟨b, off, none⟩ ∧ w.cell? ⟨b, off + j, none⟩ = some u) (h1 : ∀ u ∈ news, u.oneCell' = true)
    (h63 : n + m ≤ maxLen) (hbytes : (n + m) * bytes ≤ 140737488355328)
    (h : ∀ A' c' w', OwnC w' lo w'.heap.size e size A' (n + m) c' (cs ++ news) → w.grownBy w' (Value.slice A n c).ownBlock → Below lo w w' → ((Value.slice A' (n + m) c').ownBlock = (Value.slice A n c).ownBlock ∨ (Value.slice A' (n + m) c').ownBlock = some w.heap.size) → K (a.put o.dst (.slice A' (n + m) c')) w') : o.wp P a w K Q := by
  cases A2 with
  | none =>
    have hn : news = [] := by
      cases news with
      | nil => rfl
      | cons u r => obtain ⟨_, _, h, _⟩ := hnews 0 u rfl; cases h
    subst hn
    have hm : m = 0 := by
      rcases Nat.eq_zero_or_pos m with h | h
      · exact h
      · have := Nat.mul_pos h hsz
        rw [← hl] at this
        simp at this
    subst hm
    have hr : (Builtin.append_ #[t, t] o.type #[.slice A n c, .slice none 0 c2]).run P w = .ok (.slice A n c) w := by
      rcases hown.form with ⟨rfl, rfl, rfl, _⟩ | ⟨g, cur, rfl, _, _, _, hnc, _⟩
      · simp [Builtin.append_, run_underlying ht, sizeOf, typeInfo, hi, Builtin.lenOf, Builtin.firstCells]
      · simp [Builtin.append_, run_underlying ht, sizeOf, typeInfo, hi, Builtin.lenOf, Builtin.firstCells, hnc, storeCells]
    unfold Oper.wp execOp
    simp only [hop, resolve, invoke, builtin, Sem.run_bind, Sem.run_pure, Result.andThen_ok, List.map_toArray, List.map_cons, List.map_nil, hs, hx, hr]
    have := h A c w (by simpa using (OwnC.of_own hown.own (Nat.le_refl _))) (World.grownBy.refl w _) (Below.refl _ _) (by simp [Value.ownBlock])
    have h2 : K (a.put o.dst (.slice A n c)) w := by simpa using this
    exact h2
  | some ad =>
    obtain ⟨v', w', hr, h2, h3, _, h5⟩ := run_append_own_at (P := P) w lo t o.type e i z size bytes ht hi hz hsize hby hzs hsz (.slice A n c) n cs hown.own ad m c2 news hl (by
      intro j u hu
      obtain ⟨b, off, he, hc⟩ := hnews j u hu
      injection he with he
      subst he
      unfold Addr.add
      split
      · subst_vars; simpa using hc
      · exact hc) h1 h63 hbytes hlo
    obtain ⟨A', c', rfl, h4⟩ := OwnC.of_own' h2
    unfold Oper.wp execOp
    simp only [hop, resolve, invoke, builtin, Sem.run_bind, Sem.run_pure, Result.andThen_ok, List.map_toArray, List.map_cons, List.map_nil, hs, hx, hr]
    exact h A' c' w' h4 h3 (grown_below hown hlo h3) h5

theorem OwnC.drew1 {w : World} {lo hi : Nat} {e : TypeId} {sz : Nat} {A : Option Addr} {n c : Nat} {cs : List Value} (h : OwnC w lo hi e sz A n c cs) : OwnC (World.drew w) lo hi e sz A n c cs := h.keep fun _ _ _ _ => rfl
theorem joinRows_snoc {rs ss : List RowD} {i : Nat} {a b : RowD} (ha : rs[i]? = some a) (hb : ss[i]? = some b) : joinRows (rs.take (i + 1)) (ss.take (i + 1)) = joinRows (rs.take i) (ss.take i) ++ [joinRow a b] := by
  induction i generalizing rs ss with
  | zero =>
    cases rs with
    | nil => simp at ha
    | cons x rs =>
      cases ss with
      | nil => simp at hb
      | cons y ss =>
        simp at ha hb
        subst ha hb
        simp [joinRows]
  | succ i ih =>
    cases rs with
    | nil => simp at ha
    | cons x rs =>
      cases ss with
      | nil => simp at hb
      | cons y ss =>
        simp only [List.getElem?_cons_succ] at ha hb
        simp only [List.take_succ_cons, joinRows, List.cons_append]
        rw [ih ha hb]
def joinTo (rs ss : List RowD) (i : Nat) : List RowD := joinRows (rs.take i) (ss.take i) ++ rs.drop i
theorem joinTo_at {rs ss : List RowD} (hl : rs.length = ss.length) {i : Nat} {a b : RowD} (ha : rs[i]? = some a) (hb : ss[i]? = some b) : (joinTo rs ss i)[i]? = some a ∧ (joinTo rs ss i).set i (joinRow a b) = joinTo rs ss (i + 1) := by
  have hi := (List.getElem?_eq_some_iff.1 ha).1
  have hjl : (joinRows (rs.take i) (ss.take i)).length = i := by rw [joinRows_length _ _ (by simp [hl]), List.length_take]; omega
  refine ⟨?_, ?_⟩
  · unfold joinTo
    rw [List.getElem?_append_right (by omega), hjl, Nat.sub_self, List.getElem?_drop, Nat.add_zero]
    exact ha
  · unfold joinTo
    rw [List.set_append_right _ _ (by omega), hjl, Nat.sub_self, drop_cons ha, List.set_cons_zero, joinRows_snoc ha hb, List.append_assoc]
    rfl
theorem joinTo_length {rs ss : List RowD} (hl : rs.length = ss.length) {i : Nat} (hi : i ≤ rs.length) : (joinTo rs ss i).length = rs.length := by
  unfold joinTo
  rw [List.length_append, joinRows_length _ _ (by simp [hl]), List.length_take, List.length_drop]
  omega
theorem joinTo_end {rs ss : List RowD} (hl : rs.length = ss.length) : joinTo rs ss rs.length = joinRows rs ss := by
  unfold joinTo
  rw [take_all (Nat.le_refl _), take_all (by omega), drop_all (Nat.le_refl _), List.append_nil]
theorem sameHeads_drop {rs ss : List RowD} {i : Nat} {a b : RowD} (ha : rs[i]? = some a) (hb : ss[i]? = some b) : sameHeads (rs.drop i) (ss.drop i) = (sameHead a b && sameHeads (rs.drop (i + 1)) (ss.drop (i + 1))) := by
  rw [drop_cons ha, drop_cons hb, sameHeads]
theorem sameHead_d {a b : RowD} (h : a.d ≠ b.d) : sameHead a b = false := by simp [sameHead, h]
theorem sameHead_r {a b : RowD} (h : a.r ≠ b.r) : sameHead a b = false := by simp [sameHead, h]
theorem besCode_1 {n m : Int} {rs ss : List RowD} (h : chartB n rs = false ∨ chartB m ss = false) : besCode n rs m ss = 1 := by
  unfold besCode
  rw [if_neg (by rcases h with h | h <;> simp [h])]
theorem besCode_2 {n m : Int} {rs ss : List RowD} (h1 : chartB n rs = true) (h2 : chartB m ss = true) : besCode n rs m ss = if rs.length = ss.length then (if sameHeads rs ss then (if chartB (n + m) (joinRows rs ss) then 0 else 5) else 6) else 6 := by
  unfold besCode
  rw [if_pos (by simp [h1, h2])]

end Go.Proofs.YtcgbogofmdjddaaDoor

/- Small numbers in decimal: the program's side and the given side. -/
namespace Go.Proofs.YtcgbogofmdjddaaDoor
open Go Go.RowKit

/-- A number below a hundred in decimal. -/
def decL (n : Nat) : List UInt8 := if n < 10 then [UInt8.ofNat (48 + n)] else [UInt8.ofNat (48 + n / 10), UInt8.ofNat (48 + n % 10)]
def decT (n : Nat) : ByteArray := ⟨(decL n).toArray⟩
theorem cases17 {n : Nat} (h : n ≤ 16) : n = 0 ∨ n = 1 ∨ n = 2 ∨ n = 3 ∨ n = 4 ∨ n = 5 ∨ n = 6 ∨ n = 7 ∨ n = 8 ∨ n = 9 ∨ n = 10 ∨ n = 11 ∨ n = 12 ∨ n = 13 ∨ n = 14 ∨ n = 15 ∨ n = 16 := by omega
theorem decT_size (n : Nat) : 1 ≤ (decT n).size ∧ (decT n).size ≤ 2 := by
  show 1 ≤ (decL n).toArray.size ∧ (decL n).toArray.size ≤ 2
  unfold decL
  split <;> simp

set_option maxHeartbeats 2000000 in
set_option maxRecDepth 10000 in
theorem small_dec (n : Nat) (hn : n ≤ 16) (w : World) : Calls Tryd.prog 134 #[.int .i64 (n : Int)] w fun e w' => e = .returned (.string (decT n)) ∧ w = w' := by
  rcases cases17 hn with rfl | rfl | rfl | rfl | rfl | rfl | rfl | rfl | rfl | rfl | rfl | rfl | rfl | rfl | rfl | rfl | rfl
  all_goals
    go_enter Tryd.func134, Tryd.ntmps134
    go_wp2_with (fail)
    go_ret
    exact ⟨rfl, rfl⟩

theorem fmt_dec (n : Nat) (hn : n ≤ 16) (w : World) : Calls Tryd.prog 128 #[.int .i64 (n : Int), .int .i64 10] w fun e w' => e = .returned (.string (decT n)) ∧ w = w' := by
  have d1 : decide ((0 : Int) ≤ (n : Int)) = true := decide_eq_true (by omega)
  have d2 : decide ((n : Int) < 100) = true := decide_eq_true (by omega)
  go_enter Tryd.func128, Tryd.ntmps128
  go_wp2_with (fail)
  refine (small_dec n hn w).mono ?_; rintro e _ ⟨rfl, rfl⟩
  go_wp2_with (fail)
  go_ret
  exact ⟨rfl, rfl⟩
theorem impl_Decimal (n : Nat) (hn : n ≤ 16) (w : World) : Calls Tryd.prog 95 #[.int .i64 (n : Int)] w fun e w' => e = .returned (.string (decT n)) ∧ w = w' := by
  have key : ∀ W : World, Calls Tryd.prog 116 #[.int .i64 (n : Int), .int .i64 10] W fun e w' => e = .returned (.string (decT n)) ∧ W = w' := fun W => by
    go_enter Tryd.func116, Tryd.ntmps116
    go_wp2_with (fail)
    refine (fmt_dec n hn W).mono ?_; rintro e _ ⟨rfl, rfl⟩
    go_wp2_with (fail)
    go_ret
    exact ⟨rfl, rfl⟩
  have KEY := Lib.hid key; clear key
  go_enter Tryd.func95, Tryd.ntmps95
  go_wp2_with (fail)
  refine (KEY.out w).mono ?_; rintro e _ ⟨rfl, rfl⟩
  go_wp2_with (fail)
  go_ret
  exact ⟨rfl, rfl⟩

theorem info_u8 : (Tryd.prog.info? 5).map (fun i => (i.zero, i.size, i.bytes)) = some (some (.int .u8 0), 1, 1) := by kernel_rfl
set_option maxHeartbeats 2000000 in
set_option maxRecDepth 10000 in
theorem spec_l01Dec (n : Nat) (hn : 1 ≤ n ∧ n ≤ 16) (w : World) : Calls Tryd.prog 83 #[.int .i64 (n : Int)] w fun e w' => e = .returned (.string (decT n)) ∧ Below w.heap.size w w' := by
  obtain ⟨iB, hi0, hu0, hu1, hu2⟩ := info_parts info_u8
  go_enter Tryd.func83, Tryd.ntmps83
  go_wp2_with (fail)
  go_loopw [3, 4] (fun ov kv wr => ∃ (k : Nat) (A3 : Option Addr) (c3 : Nat) (l : List UInt8), kv = .int .i64 (k : Int) ∧ ov = .slice A3 l.length c3 ∧ OwnC wr w.heap.size wr.heap.size 5 1 A3 l.length c3 (l.map fun b => Value.int .u8 (b.toNat : Int)) ∧ Below w.heap.size w wr ∧ l.length ≤ 2 ∧ ((k = n ∧ l = []) ∨ (k = n / 10 ∧ l = [UInt8.ofNat (48 + n % 10)]) ∨ (k = 0 ∧ n / 10 ≠ 0 ∧ l = [UInt8.ofNat (48 + n / 10), UInt8.ofNat (48 + n % 10)]))) (fun _ kv _ => (intOf kv).toNat)
  case atStart =>
    refine ⟨n, some ⟨w.heap.size, 0, none⟩, 0, [], rfl, rfl, ?_, by (repeat (first | exact Below.refl _ _ | assumption | apply Below.drew | apply below_drewN | (refine Below.alloc ?_ (by first | omega | (simp; done) | (simp; omega)) _) | (refine Below.setCell ?_ (by first | omega | (simp; done) | (simp; omega)) _))), by simp, .inl ⟨rfl, rfl⟩⟩
    exact (OwnC.lit (w := w) (lo := w.heap.size) (n := 0) 5 1 #[] (Nat.le_refl _) (Nat.zero_le _) rfl).mono (Nat.le_refl _) (by simp)
  case round =>
    obtain ⟨k, A3, c3, l, rfl, rfl, o3, hb, hl2, hst⟩ := hrel
    have hzs := hb.size
    have hk16 : k ≤ 16 := by rcases hst with h | h | h <;> omega
    by_cases hk0 : k = 0
    · subst hk0
      have hl : l = decL n := by
        unfold decL
        rcases hst with ⟨h1, h2⟩ | ⟨h1, h2⟩ | ⟨_, h1, h2⟩
        · omega
        · have h10 : n < 10 := by omega
          rw [if_pos h10, h2, Nat.mod_eq_of_lt h10]
        · rw [if_neg (by omega), h2]
      have hl1 : 1 ≤ l.length := by rw [hl]; unfold decL; split <;> simp
      obtain ⟨g, rfl⟩ : ∃ g, A3 = some ⟨g, 0, none⟩ := by
        rcases o3.form with ⟨_, h2, _⟩ | ⟨g, _, h2, _⟩
        · omega
        · exact ⟨g, h2⟩
      have kc := run_convert_bytes_back (P := Tryd.prog) wr 40 9 5 ⟨g, 0, none⟩ c3 l Tryd.underlying40 Tryd.underlying5 Tryd.underlying9 (fun j hj => by
        obtain ⟨g', hg', _, _, hc, _⟩ := o3.cell (j := j) (by simpa using hj)
        injection hg' with hg'
        injection hg' with hg'
        subst hg'
        have e : (⟨g, 0, none⟩ : Addr).add j = ⟨g, j, none⟩ := by unfold Addr.add; split <;> simp_all
        rw [e, hc]
        simp)
      have hT : (⟨l.toArray⟩ : ByteArray) = decT n := by rw [hl]; rfl
      rw [hT] at kc
      have HKC := Lib.hid kc
      have hne : ((l.length : Int) == 0) = false := by simp; intro e; rw [e] at hl1; simp at hl1
      have hlz : decide ((n : Int) < 0) = false := decide_eq_false (by omega)
      clear hl hT hst
      go_wp2_with (fail)
      go_ret
      exact ⟨rfl, hb⟩
    · have hkb : ((k : Int) != 0) = true := by simp; omega
      have m1 : Int.tmod (k : Int) 10 = ((k % 10 : Nat) : Int) := by rw [Int.tmod_eq_emod_of_nonneg (by omega)]; omega
      have m2 : Int.tdiv (k : Int) 10 = ((k / 10 : Nat) : Int) := by rw [Int.tdiv_eq_ediv_of_nonneg (by omega)]; omega
      have hq : k % 10 < 10 := Nat.mod_lt _ (by decide)
      obtain ⟨b, hbb⟩ : ∃ b, b = UInt8.ofNat (48 + k % 10) := ⟨_, rfl⟩
      have hbn : b.toNat = 48 + k % 10 := by rw [hbb]; simp; omega
      have hst2 : ((k / 10 = n ∧ b :: l = []) ∨ (k / 10 = n / 10 ∧ b :: l = [UInt8.ofNat (48 + n % 10)]) ∨ (k / 10 = 0 ∧ n / 10 ≠ 0 ∧ b :: l = [UInt8.ofNat (48 + n / 10), UInt8.ofNat (48 + n % 10)])) := by
        rcases hst with ⟨h1, h2⟩ | ⟨h1, h2⟩ | ⟨h0, _⟩
        · exact .inr (.inl ⟨by rw [h1], by rw [hbb, h1, h2]⟩)
        · refine .inr (.inr ⟨by omega, by omega, ?_⟩)
          rw [hbb, h2, h1, Nat.mod_eq_of_lt (show n / 10 < 10 by omega)]
        · omega
      have hl1 : l.length ≤ 1 := by
        rcases hst with ⟨_, h2⟩ | ⟨_, h2⟩ | ⟨h0, _⟩
        · rw [h2]; simp
        · rw [h2]; simp
        · omega
      have HST := Lib.hid hst2; clear hst2 hst hbb
      have w1 : IntKind.i64.wrap (48 + ((k % 10 : Nat) : Int)) = (b.toNat : Int) := by rw [hbn]; rw [show (48 : Int) + ((k % 10 : Nat) : Int) = ((48 + k % 10 : Nat) : Int) by omega]; exact IntWalk.i64_in _ ⟨by omega, by omega⟩
      have w2 : IntKind.u8.wrap (b.toNat : Int) = (b.toNat : Int) := by
        rw [hbn]
        exact IntWalk.u8_in _ ⟨by omega, by omega⟩
      have dlt : decide (((k % 10 : Nat) : Int) < 0) = false := decide_eq_false (by omega)
      have HBN := Lib.hid hbn; clear hbn
      generalize hr : k % 10 = r at *
      clear hr
      have HDV : Hid (k / 10 < k) := Lib.hid (by omega)
      have w3 : wrap64 ((k / 10 : Nat) : Int) = ((k / 10 : Nat) : Int) := IntWalk.wrap64_in _ ⟨by omega, by omega⟩
      generalize k / 10 = q at *
      have W3 := Lib.hid w3; clear w3
      have olit := (OwnC.lit (w := wr) (lo := wr.heap.size) (n := 1) 5 1 #[.int .u8 (b.toNat : Int)] (Nat.le_refl _) (by decide) rfl)
      have HNW := Lib.hid (OwnC.news (OwnC.alloc o3 (.cells #[.int .u8 (b.toNat : Int)] 5)))
      have hz1 : wr.heap.size ≤ (wr.alloc (.cells #[.int .u8 (b.toNat : Int)] 5)).heap.size := by simp
      go_wp2_with (at_builtin; refine wpList_appendC (wr.alloc (.cells #[.int .u8 (b.toNat : Int)] 5)) rfl (.tmp 21) (.tmp 22) _ rfl 5 iB _ 1 1 Tryd.underlying40 hi0 hu0 hu1 hu2 rfl (by decide) rfl olit hz1 A3 l.length c3 _ rfl (by simp) HNW.out (by intro u hu; simp at hu; obtain ⟨x, _, rfl⟩ := hu; rfl) (by unfold maxLen; omega) (by omega) ?_; intro A9 c9 w8 ho8 hg8 hb8)
      have hz8 := hb8.size
      have hlen : 1 + l.length = (b :: l).length := by simp [Nat.add_comm]
      have hdv := HDV.out
      rw [W3.out]
      clear W3 HDV m1 m2 w1 w2
      refine ⟨⟨q, A9, c9, b :: l, rfl, by rw [hlen], ?_, ?_, by rw [← hlen]; omega, HST.out⟩, hdv⟩
      · have e : 1 + l.length = (b :: l).length := by simp [Nat.add_comm]
        rw [e] at ho8
        exact ho8.mono hzs (Nat.le_refl _)
      · exact (Below.alloc hb hzs (.cells #[.int .u8 (b.toNat : Int)] 5)).trans (hb8.mono (by omega))

end Go.Proofs.YtcgbogofmdjddaaDoor
