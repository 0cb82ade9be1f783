/- Slices of rows: how they are read and owned. -/
import Derived.Test.YtfgbhhkmdeljoaaIIf
namespace Go.Proofs.Ytfgbhhkmdeljoaa
open Go.RowKit

structure RowD where
  d : Int
  r : Int
  s : List Int
instance : DecidableEq RowD := fun a b => decidable_of_iff (a.d = b.d ∧ a.r = b.r ∧ a.s = b.s) ⟨fun h => by cases a; cases b; simp_all, fun h => by simp [h]⟩

def RowsR (w : World) (A : Option Addr) (rs : List RowD) : Prop :=
  ∀ k, k < rs.length → ∃ b off A' c' r, A = some ⟨b, off, none⟩ ∧ rs[k]? = some r ∧ w.cell? ⟨b, off + k * 3, none⟩ = some (.int .i64 r.d) ∧ w.cell? ⟨b, off + k * 3 + 1, none⟩ = some (.int .i64 r.r) ∧ w.cell? ⟨b, off + k * 3 + 2, none⟩ = some (.slice A' r.s.length c') ∧ Ints w A' r.s ∧ r.s.length ≤ 9223372036854775807
theorem RowsR.of_cells {w w' : World} {A : Option Addr} {rs : List RowD} (h : RowsR w A rs) (hk : ∀ a v, w.cell? a = some v → w'.cell? a = some v) : RowsR w' A rs :=
  fun k hk' => by
    obtain ⟨b, off, A', c', r, hA, hx, h0, h1, h2, hi, hl⟩ := h k hk'
    exact ⟨b, off, A', c', r, hA, hx, hk _ _ h0, hk _ _ h1, hk _ _ h2, hi.of_cells hk, hl⟩
theorem RowsR.below {w w' : World} {A : Option Addr} {rs : List RowD} (h : RowsR w A rs) (hb : Below w.heap.size w w') : RowsR w' A rs := h.of_cells (cells_below hb)
theorem RowsR.nil {w : World} {A : Option Addr} : RowsR w A [] := fun k hk => by simp at hk

def lenRows : List RowD → Nat
  | [] => 0
  | r :: rs => r.s.length + lenRows rs
def sizeRows (rs : List RowD) : Nat := rs.length + lenRows rs
def cntRows (rs : List RowD) : Nat := 2 * rs.length + lenRows rs
theorem lenRows_append (a b : List RowD) : lenRows (a ++ b) = lenRows a + lenRows b := by
  induction a with
  | nil => simp [lenRows]
  | cons x r ih => simp [lenRows, ih]; omega
theorem lenRows_snoc {rs : List RowD} {k : Nat} {r : RowD} (h : rs[k]? = some r) : lenRows (rs.take (k + 1)) = lenRows (rs.take k) + r.s.length := by
  rw [take_snoc h, lenRows_append]; simp [lenRows]
theorem lenRows_take_le (rs : List RowD) (k : Nat) : lenRows (rs.take k) ≤ lenRows rs := by
  have := lenRows_append (rs.take k) (rs.drop k)
  rw [List.take_append_drop] at this
  omega
theorem lenRows_at {rs : List RowD} {k : Nat} {r : RowD} (h : rs[k]? = some r) : lenRows (rs.take k) + r.s.length ≤ lenRows rs := by
  rw [← lenRows_snoc h]; exact lenRows_take_le _ _

def CellsRows (w : World) (lo hi : Nat) (cs : List Value) (rs : List RowD) : Prop :=
  cs.length = rs.length * 3 ∧ (∀ (k : Nat) (r : RowD), rs[k]? = some r → ∃ (A' : Option Addr) (c' : Nat), cs[k * 3]? = some (Value.int .i64 r.d) ∧ cs[k * 3 + 1]? = some (Value.int .i64 r.r) ∧ cs[k * 3 + 2]? = some (Value.slice A' r.s.length c') ∧ OwnI w lo hi A' c' r.s) ∧
  ∀ (i j : Nat) (v v' : Value) (g : Nat), cs[i]? = some v → cs[j]? = some v' → v.ownBlock = some g → v'.ownBlock = some g → i = j
theorem CellsRows.keep {w w' : World} {lo hi : Nat} {cs : List Value} {rs : List RowD} (h : CellsRows w lo hi cs rs) (hk : ∀ k, lo ≤ k → k < hi → k < w.heap.size → w'.heap[k]? = w.heap[k]?) : CellsRows w' lo hi cs rs :=
  ⟨h.1, fun k r hx => by obtain ⟨A', c', h0, h1, h2, h3⟩ := h.2.1 k r hx; exact ⟨A', c', h0, h1, h2, h3.keep hk⟩, h.2.2⟩
theorem CellsRows.mono {w : World} {lo hi lo' hi' : Nat} {cs : List Value} {rs : List RowD} (h : CellsRows w lo hi cs rs) (h1 : lo' ≤ lo) (h2 : hi ≤ hi') : CellsRows w lo' hi' cs rs :=
  ⟨h.1, fun k r hx => by obtain ⟨A', c', h3, h4, h5, h6⟩ := h.2.1 k r hx; exact ⟨A', c', h3, h4, h5, h6.mono h1 h2⟩, h.2.2⟩
/-- Every cell is a number, or a slice in blocks from lo up to hi. -/
theorem CellsRows.block {w : World} {lo hi : Nat} {cs : List Value} {rs : List RowD} (h : CellsRows w lo hi cs rs) {i : Nat} {v : Value} {g : Nat} (hi' : cs[i]? = some v) (hv : v.ownBlock = some g) : lo ≤ g ∧ g < hi ∧ ∃ k r, rs[k]? = some r ∧ i = k * 3 + 2 := by
  have hil : i < cs.length := (List.getElem?_eq_some_iff.1 hi').1
  have hkl : i / 3 < rs.length := by have := h.1; omega
  obtain ⟨A', c', h0, h1, h2, h3⟩ := h.2.1 (i / 3) _ (List.getElem?_eq_getElem hkl)
  have : i = i / 3 * 3 ∨ i = i / 3 * 3 + 1 ∨ i = i / 3 * 3 + 2 := by omega
  rcases this with e | e | e
  · rw [← e, hi'] at h0
    injection h0 with h0
    subst h0
    simp [Value.ownBlock] at hv
  · rw [← e, hi'] at h1
    injection h1 with h1
    subst h1
    simp [Value.ownBlock] at hv
  · rw [← e, hi'] at h2
    injection h2 with h2
    subst h2
    have := h3.own.lt g hv
    refine ⟨this.1, ?_, i / 3, _, List.getElem?_eq_getElem hkl, e⟩
    cases A' with
    | none => simp [Value.ownBlock] at hv
    | some a => simp [Value.ownBlock] at hv; subst hv; exact h3.lt a rfl

structure OwnRows (w : World) (lo hi : Nat) (A : Option Addr) (n c : Nat) (rs : List RowD) : Prop where
  ex : ∃ cs, OwnC w lo hi 60 3 A n c cs ∧ CellsRows w lo hi cs rs
section
variable {w w' : World} {lo hi n : Nat} {A : Option Addr} {c : Nat} {rs : List RowD}
theorem OwnRows.keep (h : OwnRows w lo hi A n c rs) (hk : ∀ k, lo ≤ k → k < hi → k < w.heap.size → w'.heap[k]? = w.heap[k]?) : OwnRows w' lo hi A n c rs := by
  obtain ⟨cs, h1, h2⟩ := h.ex
  exact ⟨cs, h1.keep hk, h2.keep hk⟩
theorem OwnRows.below {B : Nat} (h : OwnRows w lo hi A n c rs) (hb : Below B w w') (hB : hi ≤ B) : OwnRows w' lo hi A n c rs := h.keep fun k _ h2 _ => hb.block k (by omega)
theorem OwnRows.upd {l2 h2 : Nat} (h : OwnRows w lo hi A n c rs) (hb : Upd l2 h2 w w') (hB : hi ≤ l2 ∨ h2 ≤ lo) : OwnRows w' lo hi A n c rs := h.keep fun k h3 h4 h5 => hb.block k h5 (by omega)
theorem OwnRows.mono {lo' hi' : Nat} (h : OwnRows w lo hi A n c rs) (h1 : lo' ≤ lo) (h2 : hi ≤ hi') : OwnRows w lo' hi' A n c rs := by
  obtain ⟨cs, h3, h4⟩ := h.ex
  exact ⟨cs, h3.mono h1 h2, h4.mono h1 h2⟩
theorem OwnRows.alloc (h : OwnRows w lo hi A n c rs) (o : Obj) : OwnRows (w.alloc o) lo hi A n c rs := h.keep fun k _ _ h4 => Below.heap_alloc w o k h4
theorem OwnRows.far (h : OwnRows w lo hi A n c rs) {p : Addr} (hp : p.block < lo ∨ hi ≤ p.block) (u : Value) : OwnRows (w.setCell p u) lo hi A n c rs :=
  h.keep fun k h2 h3 _ => Below.heap_setCell w p u k (by omega)
theorem OwnRows.len (h : OwnRows w lo hi A n c rs) : rs.length = n := by
  obtain ⟨cs, h1, h2⟩ := h.ex
  have := h1.len
  have := h2.1
  omega
theorem OwnRows.cap (h : OwnRows w lo hi A n c rs) : n ≤ c := by obtain ⟨_, h1, _⟩ := h.ex; exact h1.cap
theorem OwnRows.maxc (h : OwnRows w lo hi A n c rs) : n ≤ 9223372036854775807 := by obtain ⟨_, h1, _⟩ := h.ex; exact h1.maxc
theorem OwnRows.rowsR (h : OwnRows w lo hi A n c rs) : RowsR w A rs := by
  obtain ⟨cs, h1, h2, h3, _⟩ := h.ex
  intro k hk
  have hx : rs[k]? = some rs[k] := List.getElem?_eq_getElem hk
  obtain ⟨A', c', e0, e1, e2, h5⟩ := h3 k _ hx
  obtain ⟨g, rfl, _, _, q0, _⟩ := h1.cell (j := k * 3) (by omega)
  obtain ⟨_, hA, _, _, q1, _⟩ := h1.cell (j := k * 3 + 1) (by omega)
  injection hA with hA
  injection hA with hA
  subst hA
  obtain ⟨_, hA, _, _, q2, _⟩ := h1.cell (j := k * 3 + 2) (by omega)
  injection hA with hA
  injection hA with hA
  subst hA
  rw [List.getElem?_eq_getElem (by omega)] at e0 e1 e2
  injection e0 with e0
  injection e1 with e1
  injection e2 with e2
  rw [e0] at q0
  rw [e1] at q1
  rw [e2] at q2
  exact ⟨g, 0, A', c', rs[k], rfl, hx, by simpa using q0, by simpa using q1, by simpa using q2, h5.ints, h5.maxc⟩
end
theorem info_Row : (Try.prog.info? 60).map (fun i => (i.zero, i.size, i.bytes)) = some (some (.agg #[.int .i64 0, .int .i64 0, .slice none 0 0]), 3, 40) := by kernel_rfl

def zeroRow : RowD := ⟨0, 0, []⟩
def zeroCells3 (n : Nat) : List Value := (madeCells (Value.agg #[.int .i64 0, .int .i64 0, .slice none 0 0]).cells (n * 3)).toList
theorem zeroCells3_at {n k : Nat} (h : k < n) : (zeroCells3 n)[k * 3]? = some (.int .i64 0) ∧ (zeroCells3 n)[k * 3 + 1]? = some (.int .i64 0) ∧ (zeroCells3 n)[k * 3 + 2]? = some (.slice none 0 0) := by
  unfold zeroCells3 madeCells
  simp only [Value.cells, Array.toList_map, Array.toList_range, List.getElem?_map]
  rw [List.getElem?_range (by omega), List.getElem?_range (by omega), List.getElem?_range (by omega)]
  simp [Nat.mul_mod_left, Nat.add_mod]
theorem zeroCells3_length (n : Nat) : (zeroCells3 n).length = n * 3 := by simp [zeroCells3, madeCells]
theorem CellsRows.zeros {w : World} {lo hi n : Nat} : CellsRows w lo hi (zeroCells3 n) (List.replicate n zeroRow) := by
  refine ⟨by rw [zeroCells3_length]; simp, fun k r hx => ?_, fun i j v v' g hi' hj hv hv' => ?_⟩
  · by_cases hk : k < n
    · simp [hk] at hx
      subst hx
      obtain ⟨h0, h1, h2⟩ := zeroCells3_at hk
      exact ⟨none, 0, h0, h1, h2, OwnC.nil _ _ _ _ _⟩
    · simp [hk] at hx
  · have hil : i < n * 3 := by have := (List.getElem?_eq_some_iff.1 hi').1; rwa [zeroCells3_length] at this
    obtain ⟨h0, h1, h2⟩ := zeroCells3_at (n := n) (k := i / 3) (by omega)
    have : i = i / 3 * 3 ∨ i = i / 3 * 3 + 1 ∨ i = i / 3 * 3 + 2 := by omega
    rcases this with e | e | e
    · rw [← e, hi'] at h0; injection h0 with h0; subst h0; simp [Value.ownBlock] at hv
    · rw [← e, hi'] at h1; injection h1 with h1; subst h1; simp [Value.ownBlock] at hv
    · rw [← e, hi'] at h2; injection h2 with h2; subst h2; simp [Value.ownBlock] at hv

theorem get_set3 {α : Type} {cs : List α} {k j : Nat} (a b c : α) : (((cs.set (k * 3) a).set (k * 3 + 1) b).set (k * 3 + 2) c)[j]? =
    if j = k * 3 + 2 ∧ j < cs.length then some c else if j = k * 3 + 1 ∧ j < cs.length then some b else if j = k * 3 ∧ j < cs.length then some a else cs[j]? := by
  simp only [List.getElem?_set, List.length_set]
  by_cases h2 : k * 3 + 2 = j
  · subst h2
    by_cases hl : k * 3 + 2 < cs.length
    · simp [hl]
    · simp [hl]
  · by_cases h1 : k * 3 + 1 = j
    · subst h1
      by_cases hl : k * 3 + 1 < cs.length
      · simp [hl]
      · simp [hl]
    · by_cases h0 : k * 3 = j
      · subst h0
        by_cases hl : k * 3 < cs.length
        · simp [hl]
        · simp [hl]
      · simp [h0, h1, h2, Ne.symm h0, Ne.symm h1, Ne.symm h2]

/-- One row is put in place of another; its slice lies in blocks from hi on. -/
theorem CellsRows.set {w : World} {lo hi l2 h2 : Nat} {cs : List Value} {rs : List RowD} {k : Nat} {A' : Option Addr} {c' : Nat} {r : RowD}
    (h : CellsRows w lo hi cs rs) (ho : OwnI w l2 h2 A' c' r.s) (h1 : hi ≤ l2) (h3 : hi ≤ h2) (h4 : lo ≤ l2) (hk : k < rs.length) :
    CellsRows w lo h2 (((cs.set (k * 3) (.int .i64 r.d)).set (k * 3 + 1) (.int .i64 r.r)).set (k * 3 + 2) (.slice A' r.s.length c')) (rs.set k r) := by
  obtain ⟨ha, hb, hc⟩ := id h
  refine ⟨by simpa using ha, fun j r' hy => ?_, fun i j v v' g hi' hj hv hv' => ?_⟩
  · by_cases e : k = j
    · subst e
      rw [List.getElem?_set_self hk] at hy
      injection hy with hy
      subst hy
      exact ⟨A', c', by rw [get_set3]; simp; omega, by rw [get_set3]; simp; omega, by rw [get_set3]; simp; omega, ho.mono h4 (Nat.le_refl _)⟩
    · rw [List.getElem?_set_ne e] at hy
      obtain ⟨A2, c2, h5, h6, h7, h8⟩ := hb j r' hy
      refine ⟨A2, c2, ?_, ?_, ?_, h8.mono (Nat.le_refl _) h3⟩
      · rw [get_set3, if_neg (by omega), if_neg (by omega), if_neg (by omega)]; exact h5
      · rw [get_set3, if_neg (by omega), if_neg (by omega), if_neg (by omega)]; exact h6
      · rw [get_set3, if_neg (by omega), if_neg (by omega), if_neg (by omega)]; exact h7
  · have cases_ : ∀ (i : Nat) (v : Value), (((cs.set (k * 3) (Value.int .i64 r.d)).set (k * 3 + 1) (Value.int .i64 r.r)).set (k * 3 + 2) (Value.slice A' r.s.length c'))[i]? = some v → v.ownBlock = some g →
        (i = k * 3 + 2 ∧ hi ≤ g) ∨ (g < hi ∧ cs[i]? = some v ∧ i ≠ k * 3 + 2) := by
      intro i v h7 h8
      rw [get_set3] at h7
      split at h7
      · rename_i hh
        injection h7 with h7
        subst h7
        have := ho.own.lt g h8
        exact .inl ⟨hh.1, by omega⟩
      · split at h7
        · injection h7 with h7
          subst h7
          simp [Value.ownBlock] at h8
        · split at h7
          · injection h7 with h7
            subst h7
            simp [Value.ownBlock] at h8
          · rename_i n1 n2 n3
            have hil : i < cs.length := (List.getElem?_eq_some_iff.1 h7).1
            exact .inr ⟨(h.block h7 h8).2.1, h7, fun e => n1 ⟨e, hil⟩⟩
    rcases cases_ i v hi' hv with ⟨e1, g1⟩ | ⟨g1, q1, e1⟩
    · rcases cases_ j v' hj hv' with ⟨e2, g2⟩ | ⟨g2, q2, e2⟩
      · omega
      · omega
    · rcases cases_ j v' hj hv' with ⟨e2, g2⟩ | ⟨g2, q2, e2⟩
      · omega
      · exact hc i j v v' g q1 q2 hv hv'

/-- The cells of one row, and its slice by itself: whatever changes in the slice's block alone changes it alone. -/
theorem OwnRows.open_ {w : World} {lo hi n : Nat} {A : Option Addr} {c : Nat} {rs : List RowD} (h : OwnRows w lo hi A n c rs) {k : Nat} {r : RowD} (hx : rs[k]? = some r) :
    ∃ g A' c' l h', A = some ⟨g, 0, none⟩ ∧ lo ≤ g ∧ g < hi ∧ w.cell? ⟨g, k * 3, none⟩ = some (.int .i64 r.d) ∧ w.cell? ⟨g, k * 3 + 1, none⟩ = some (.int .i64 r.r) ∧ w.cell? ⟨g, k * 3 + 2, none⟩ = some (.slice A' r.s.length c') ∧
      (∀ i, w.frozen? ⟨g, i, none⟩ = false) ∧ OwnI w l h' A' c' r.s ∧ r.s.length ≤ 9223372036854775807 ∧
      ∀ (w' : World) (d' r' : Int) (ys : List Int), ys.length = r.s.length → Upd l h' ((w.setCell ⟨g, k * 3, none⟩ (.int .i64 d')).setCell ⟨g, k * 3 + 1, none⟩ (.int .i64 r')) w' →
        OwnC w' l h' 2 1 A' r.s.length c' (ys.map (Value.int .i64)) → OwnRows w' lo hi A n c (rs.set k ⟨d', r', ys⟩) ∧ Upd lo hi w w' := by
  obtain ⟨cs, ho, ha, hb, hc⟩ := h.ex
  have hk : k < rs.length := (List.getElem?_eq_some_iff.1 hx).1
  obtain ⟨A', c', e0, e1, e2, h2⟩ := hb k r hx
  obtain ⟨g, rfl, hg1, hg2, q0, _⟩ := ho.cell (j := k * 3) (by omega)
  obtain ⟨_, hA, _, _, q1, _⟩ := ho.cell (j := k * 3 + 1) (by omega)
  injection hA with hA
  injection hA with hA
  subst hA
  obtain ⟨_, hA, _, _, q2, _⟩ := ho.cell (j := k * 3 + 2) (by omega)
  injection hA with hA
  injection hA with hA
  subst hA
  have e0' := e0; have e1' := e1; have e2' := e2
  rw [List.getElem?_eq_getElem (by omega)] at e0' e1' e2'
  injection e0' with e0'
  injection e1' with e1'
  injection e2' with e2'
  rw [e0'] at q0
  rw [e1'] at q1
  rw [e2'] at q2
  have tight : ∃ l h', OwnI w l h' A' c' r.s ∧ (∀ j, l ≤ j → j < h' → A' = some ⟨j, 0, none⟩ ∧ lo ≤ j ∧ j < hi ∧ j ≠ g) := by
    rcases h2.form with ⟨rfl, hn, rfl, _⟩ | ⟨q, cur, rfl, hq1, hq2, hq3, hq4⟩
    · refine ⟨0, 0, ?_, fun j _ h => by omega⟩
      have hxs : r.s = [] := List.eq_nil_of_length_eq_zero hn
      rw [hxs]
      exact OwnC.nil _ _ _ _ _
    · refine ⟨q, q + 1, ⟨⟨h2.own.1, .inr ⟨q, c', cur, rfl, Nat.le_refl _, hq3, hq4⟩⟩, fun a e => by injection e with e; subst e; exact Nat.lt_succ_self _⟩, fun j hj1 hj2 => ?_⟩
      obtain rfl : j = q := by omega
      refine ⟨rfl, hq1, hq2, ?_⟩
      rintro rfl
      rcases ho.form with ⟨h, _⟩ | ⟨q', cur', h, _, _, h4, _⟩
      · simp at h
      · injection h with h
        injection h with h
        subst h
        rw [hq3] at h4
        injection h4 with h4
        injection h4 with _ h4
        simp at h4
  obtain ⟨l, h', hl1, hl2⟩ := tight
  have hfz : ∀ i, w.frozen? ⟨g, i, none⟩ = false := by
    intro i
    rcases ho.form with ⟨h, _⟩ | ⟨q', cur', h, _, _, h4, _⟩
    · simp at h
    · injection h with h
      injection h with h
      subst h
      exact frozen_of_row w _ i cur' _ h4
  have hgl : g < w.heap.size := cell_lt q0
  refine ⟨g, A', c', l, h', rfl, hg1, hg2, q0, q1, q2, hfz, hl1, hl1.maxc, fun w' d' r' ys hlen hu hn => ?_⟩
  have hblk : ∀ q, q < w.heap.size → (q < l ∨ h' ≤ q) → q ≠ g → w'.heap[q]? = w.heap[q]? := by
    intro q h1 h2 h3
    rw [hu.block q (by simpa using h1) h2, Below.heap_setCell _ _ _ _ h3, Below.heap_setCell _ _ _ _ h3]
  have hog : OwnC w' lo hi 60 3 (some ⟨g, 0, none⟩) n c ((cs.set (k * 3) (.int .i64 d')).set (k * 3 + 1) (.int .i64 r')) := by
    refine ((ho.store (.int .i64 d')).1.store (.int .i64 r')).1.keep1 fun q hq => ?_
    injection hq with hq
    injection hq with hq
    subst hq
    refine hu.block g (by simpa using hgl) ?_
    rcases Nat.lt_or_ge g l with h | h
    · exact .inl h
    · rcases Nat.lt_or_ge g h' with h3 | h3
      · exact absurd rfl (hl2 g h h3).2.2.2
      · exact .inr h3
  have hupd : Upd lo hi w w' := ⟨hu.os, hu.tape, hu.output, by simpa using hu.size, fun q hq hj => hblk q hq (by
      rcases Nat.lt_or_ge q l with h | h
      · exact .inl h
      · rcases Nat.lt_or_ge q h' with h3 | h3
        · have := hl2 q h h3; omega
        · exact .inr h3) (by omega)⟩
  have hnew : OwnI w' lo hi A' c' ys := by
    rw [← hlen] at hn
    refine ⟨⟨hn.own.1, ?_⟩, fun a haa => ?_⟩
    · rcases hn.own.2 with h3 | ⟨q, cap, cur, h3, h4, h5⟩
      · exact .inl h3
      · injection h3 with h3 hn' hcc
        have := hl2 q h4 (by have := hn.lt _ h3; exact this)
        exact .inr ⟨q, cap, cur, by rw [h3, hcc], this.2.1, h5⟩
    · subst haa
      rcases hn.form with ⟨h3, _⟩ | ⟨q, cur, h3, h4, h5, _⟩
      · simp at h3
      · injection h3 with h3
        subst h3
        exact (hl2 q h4 h5).2.2.1
  refine ⟨⟨_, hog, ?_⟩, hupd⟩
  refine ⟨by simpa using ha, fun j z hz => ?_, fun i j v v' q hi' hj hv hv' => ?_⟩
  · by_cases e : k = j
    · subst e
      rw [List.getElem?_set_self hk] at hz
      injection hz with hz
      subst hz
      refine ⟨A', c', ?_, ?_, ?_, hnew⟩
      · rw [List.getElem?_set_ne (by omega), List.getElem?_set_self (by omega)]
      · rw [List.getElem?_set_self (by simp; omega)]
      · rw [List.getElem?_set_ne (by omega), List.getElem?_set_ne (by omega), e2, hlen]
    · rw [List.getElem?_set_ne e] at hz
      obtain ⟨A2, c2, z0, z1, z2, h6⟩ := hb j z hz
      refine ⟨A2, c2, ?_, ?_, ?_, h6.keep1 fun q hq => ?_⟩
      · rw [List.getElem?_set_ne (by omega), List.getElem?_set_ne (by omega)]; exact z0
      · rw [List.getElem?_set_ne (by omega), List.getElem?_set_ne (by omega)]; exact z1
      · rw [List.getElem?_set_ne (by omega), List.getElem?_set_ne (by omega)]; exact z2
      · subst hq
        rcases h6.form with ⟨h, _⟩ | ⟨q', cur', h, _, _, h4, _⟩
        · simp at h
        · injection h with h
          injection h with h
          subst h
          refine hblk q (Array.getElem?_eq_some_iff.1 h4).1 ?_ ?_
          · rcases Nat.lt_or_ge q l with h | h
            · exact .inl h
            · rcases Nat.lt_or_ge q h' with h3 | h3
              · have := (hl2 q h h3).1
                subst this
                have := hc (k * 3 + 2) (j * 3 + 2) _ _ q e2 z2 rfl rfl
                omega
              · exact .inr h3
          · rintro rfl
            rcases ho.form with ⟨h, _⟩ | ⟨q', cur2, h, _, _, h9, _⟩
            · simp at h
            · injection h with h
              injection h with h
              subst h
              rw [h4] at h9
              injection h9 with h9
              injection h9 with _ h9
              simp at h9
  · have old : ∀ (i : Nat) (v : Value), ((cs.set (k * 3) (Value.int .i64 d')).set (k * 3 + 1) (Value.int .i64 r'))[i]? = some v → v.ownBlock = some q → cs[i]? = some v := by
      intro i v h7 h8
      rw [List.getElem?_set] at h7
      split at h7
      · split at h7
        · injection h7 with h7
          subst h7
          simp [Value.ownBlock] at h8
        · cases h7
      · rw [List.getElem?_set] at h7
        split at h7
        · split at h7
          · injection h7 with h7
            subst h7
            simp [Value.ownBlock] at h8
          · cases h7
        · exact h7
    exact hc i j v v' q (old i v hi' hv) (old j v' hj hv') hv hv'

end Go.Proofs.Ytfgbhhkmdeljoaa
