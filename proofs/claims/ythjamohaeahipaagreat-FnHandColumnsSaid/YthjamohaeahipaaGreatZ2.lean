/- Steps of the proof, joined from several texts: II IIf RW RWf S2 FP O2 GA Q SP. -/
import Derived.Test.YthjamohaeahipaaGreatZ1
import Derived.Deep.Fields

/- Slices of slices of numbers: how they are read and owned, and the helpers of the laws on them. -/
namespace Go.Proofs.YthjamohaeahipaaGreat
open Go.RowKit

def Ints2 (w : World) (A : Option Addr) (xss : List (List Int)) : Prop :=
  ∀ k, k < xss.length → ∃ b off A' c' xs, A = some ⟨b, off, none⟩ ∧ xss[k]? = some xs ∧ w.cell? ⟨b, off + k, none⟩ = some (.slice A' xs.length c') ∧ Ints w A' xs ∧ xs.length ≤ 9223372036854775807
theorem Ints2.of_cells {w w' : World} {A : Option Addr} {xss : List (List Int)} (h : Ints2 w A xss) (hk : ∀ a v, w.cell? a = some v → w'.cell? a = some v) : Ints2 w' A xss :=
  fun k hk' => by
    obtain ⟨b, off, A', c', xs, hA, hx, hc, hi, hl⟩ := h k hk'
    exact ⟨b, off, A', c', xs, hA, hx, hk _ _ hc, hi.of_cells hk, hl⟩
theorem Ints2.below {w w' : World} {A : Option Addr} {xss : List (List Int)} (h : Ints2 w A xss) (hb : Below w.heap.size w w') : Ints2 w' A xss := h.of_cells (cells_below hb)
theorem Ints2.drewN {w : World} {A : Option Addr} {xss : List (List Int)} (h : Ints2 w A xss) (n : Nat) : Ints2 (w.drewN n) A xss := h
theorem Ints2.nil {w : World} {A : Option Addr} : Ints2 w A [] := fun k hk => by simp at hk

def cntII : List (List Int) → Nat
  | [] => 0
  | xs :: r => xs.length + cntII r
def sizeII (xss : List (List Int)) : Nat := xss.length + cntII xss
theorem cntII_append (a b : List (List Int)) : cntII (a ++ b) = cntII a + cntII b := by
  induction a with
  | nil => simp [cntII]
  | cons x r ih => simp [cntII, ih]; omega
theorem cntII_snoc {xss : List (List Int)} {k : Nat} {xs : List Int} (h : xss[k]? = some xs) : cntII (xss.take (k + 1)) = cntII (xss.take k) + xs.length := by
  rw [take_snoc h, cntII_append]; simp [cntII]
theorem cntII_take_le (xss : List (List Int)) (k : Nat) : cntII (xss.take k) ≤ cntII xss := by
  have := cntII_append (xss.take k) (xss.drop k)
  rw [List.take_append_drop] at this
  omega
theorem cntII_at {xss : List (List Int)} {k : Nat} {xs : List Int} (h : xss[k]? = some xs) : cntII (xss.take k) + xs.length ≤ cntII xss := by
  rw [← cntII_snoc h]; exact cntII_take_le _ _

/-- A slice of slices that is the call's own: the inner ones lie in blocks of their own, each in another. -/
def CellsII (w : World) (lo hi : Nat) (cs : List Value) (xss : List (List Int)) : Prop :=
  cs.length = xss.length ∧ (∀ (k : Nat) (xs : List Int), xss[k]? = some xs → ∃ (A' : Option Addr) (c' : Nat), cs[k]? = some (Value.slice A' xs.length c') ∧ OwnI w lo hi A' c' xs) ∧
  ∀ (i j : Nat) (v v' : Value) (g : Nat), cs[i]? = some v → cs[j]? = some v' → v.ownBlock = some g → v'.ownBlock = some g → i = j

theorem CellsII.keep {w w' : World} {lo hi : Nat} {cs : List Value} {xss : List (List Int)} (h : CellsII w lo hi cs xss) (hk : ∀ k, lo ≤ k → k < hi → k < w.heap.size → w'.heap[k]? = w.heap[k]?) : CellsII w' lo hi cs xss :=
  ⟨h.1, fun k xs hx => by obtain ⟨A', c', h1, h2⟩ := h.2.1 k xs hx; exact ⟨A', c', h1, h2.keep hk⟩, h.2.2⟩
theorem CellsII.mono {w : World} {lo hi lo' hi' : Nat} {cs : List Value} {xss : List (List Int)} (h : CellsII w lo hi cs xss) (h1 : lo' ≤ lo) (h2 : hi ≤ hi') : CellsII w lo' hi' cs xss :=
  ⟨h.1, fun k xs hx => by obtain ⟨A', c', h3, h4⟩ := h.2.1 k xs hx; exact ⟨A', c', h3, h4.mono h1 h2⟩, h.2.2⟩

structure OwnII (w : World) (lo hi : Nat) (A : Option Addr) (n c : Nat) (xss : List (List Int)) : Prop where
  ex : ∃ cs, OwnC w lo hi 24 1 A n c cs ∧ CellsII w lo hi cs xss
section
variable {w w' : World} {lo hi n : Nat} {A : Option Addr} {c : Nat} {xss : List (List Int)}
theorem OwnII.keep (h : OwnII w lo hi A n c xss) (hk : ∀ k, lo ≤ k → k < hi → k < w.heap.size → w'.heap[k]? = w.heap[k]?) : OwnII w' lo hi A n c xss := by
  obtain ⟨cs, h1, h2⟩ := h.ex
  exact ⟨cs, h1.keep hk, h2.keep hk⟩
theorem OwnII.below {B : Nat} (h : OwnII w lo hi A n c xss) (hb : Below B w w') (hB : hi ≤ B) : OwnII w' lo hi A n c xss := h.keep fun k _ h2 _ => hb.block k (by omega)
theorem OwnII.upd {l2 h2 : Nat} (h : OwnII w lo hi A n c xss) (hb : Upd l2 h2 w w') (hB : hi ≤ l2 ∨ h2 ≤ lo) : OwnII w' lo hi A n c xss := h.keep fun k h3 h4 h5 => hb.block k h5 (by omega)
theorem OwnII.mono {lo' hi' : Nat} (h : OwnII w lo hi A n c xss) (h1 : lo' ≤ lo) (h2 : hi ≤ hi') : OwnII w lo' hi' A n c xss := by
  obtain ⟨cs, h3, h4⟩ := h.ex
  exact ⟨cs, h3.mono h1 h2, h4.mono h1 h2⟩
theorem OwnII.alloc (h : OwnII w lo hi A n c xss) (o : Obj) : OwnII (w.alloc o) lo hi A n c xss := h.keep fun k _ _ h4 => Below.heap_alloc w o k h4
theorem OwnII.far (h : OwnII w lo hi A n c xss) {p : Addr} (hp : p.block < lo ∨ hi ≤ p.block) (u : Value) : OwnII (w.setCell p u) lo hi A n c xss :=
  h.keep fun k h2 h3 _ => Below.heap_setCell w p u k (by omega)
theorem OwnII.len (h : OwnII w lo hi A n c xss) : xss.length = n := by
  obtain ⟨cs, h1, h2⟩ := h.ex
  have := h1.len
  rw [← h2.1]; omega
theorem OwnC.maxc {sz : Nat} {e : TypeId} {cs : List Value} (h : OwnC w lo hi e sz A n c cs) : n ≤ 9223372036854775807 := by
  rcases h.form with ⟨_, rfl, rfl, _⟩ | ⟨_, _, _, _, _, _, h, h', _⟩
  · omega
  · unfold maxLen at h'; omega
theorem OwnII.ints2 (h : OwnII w lo hi A n c xss) : Ints2 w A xss := by
  obtain ⟨cs, h1, h2, h3, _⟩ := h.ex
  intro k hk
  obtain ⟨g, rfl, _, _, hc, _⟩ := h1.cell (j := k) (by omega)
  have hx : xss[k]? = some xss[k] := List.getElem?_eq_getElem hk
  obtain ⟨A', c', h4, h5⟩ := h3 k _ hx
  rw [List.getElem?_eq_getElem (by omega)] at h4
  injection h4 with h4
  rw [h4] at hc
  exact ⟨g, 0, A', c', xss[k], rfl, hx, by simpa using hc, h5.ints, h5.maxc⟩
theorem OwnII.cap (h : OwnII w lo hi A n c xss) : n ≤ c := by obtain ⟨_, h1, _⟩ := h.ex; exact h1.cap
end
theorem info_ints : (Tryz.prog.info? 24).map (fun i => (i.zero, i.size, i.bytes)) = some (some (.slice none 0 0), 1, 24) := by kernel_rfl

theorem CellsII.nils {w : World} {lo hi n : Nat} : CellsII w lo hi (List.replicate n (.slice none 0 0)) (List.replicate n []) := by
  refine ⟨by simp, fun k xs hx => ?_, fun i j v v' g hi' hj hv hv' => ?_⟩
  · by_cases hk : k < n
    · simp [hk] at hx
      subst hx
      exact ⟨none, 0, by simp [hk], OwnC.nil _ _ _ _ _⟩
    · simp [hk] at hx
  · by_cases hk : i < n
    · simp [hk] at hi'
      subst hi'
      simp [Value.ownBlock] at hv
    · simp [hk] at hi'

/-- One inner slice is put in place of another; it lies in blocks from hi on. -/
theorem CellsII.set {w : World} {lo hi l2 h2 : Nat} {cs : List Value} {xss : List (List Int)} {k : Nat} {A' : Option Addr} {c' : Nat} {xs : List Int}
    (h : CellsII w lo hi cs xss) (ho : OwnI w l2 h2 A' c' xs) (h1 : hi ≤ l2) (h3 : hi ≤ h2) (h4 : lo ≤ l2) (hk : k < xss.length) : CellsII w lo h2 (cs.set k (.slice A' xs.length c')) (xss.set k xs) := by
  obtain ⟨ha, hb, hc⟩ := h
  refine ⟨by simpa using ha, fun j ys hy => ?_, fun i j v v' g hi' hj hv hv' => ?_⟩
  · by_cases e : k = j
    · subst e
      rw [List.getElem?_set_self hk] at hy
      injection hy with hy
      subst hy
      exact ⟨A', c', by rw [List.getElem?_set_self (by omega)], ho.mono h4 (Nat.le_refl _)⟩
    · rw [List.getElem?_set_ne e] at hy
      obtain ⟨A2, c2, h5, h6⟩ := hb j ys hy
      exact ⟨A2, c2, by rw [List.getElem?_set_ne e]; exact h5, h6.mono (Nat.le_refl _) h3⟩
  · have new : (Value.slice A' xs.length c').ownBlock = some g → hi ≤ g := by
      intro e
      have := ho.own.lt g e
      omega
    have old : ∀ i v, k ≠ i → (cs.set k (.slice A' xs.length c'))[i]? = some v → v.ownBlock = some g → g < hi := by
      intro i v hne h7 h8
      rw [List.getElem?_set_ne hne] at h7
      have hil : i < xss.length := by rw [← ha]; exact (List.getElem?_eq_some_iff.1 h7).1
      obtain ⟨A2, c2, h5, h6⟩ := hb i _ (List.getElem?_eq_getElem hil)
      rw [h5] at h7
      injection h7 with h7
      subst h7
      cases A2 with
      | none => simp [Value.ownBlock] at h8
      | some a => simp [Value.ownBlock] at h8; subst h8; exact h6.lt a rfl
    by_cases ei : k = i
    · by_cases ej : k = j
      · omega
      · subst ei
        rw [List.getElem?_set_self (by omega)] at hi'
        injection hi' with hi'
        subst hi'
        have := new hv
        have := old j v' ej hj hv'
        omega
    · by_cases ej : k = j
      · subst ej
        rw [List.getElem?_set_self (by omega)] at hj
        injection hj with hj
        subst hj
        have := new hv'
        have := old i v ei hi' hv
        omega
      · rw [List.getElem?_set_ne ei] at hi'
        rw [List.getElem?_set_ne ej] at hj
        exact hc i j v v' g hi' hj hv hv'

theorem OwnC.keep1 {w w' : World} {lo hi : Nat} {e : TypeId} {sz : Nat} {A : Option Addr} {n c : Nat} {cs : List Value} (h : OwnC w lo hi e sz A n c cs) (hk : ∀ g, A = some ⟨g, 0, none⟩ → w'.heap[g]? = w.heap[g]?) : OwnC w' lo hi e sz A n c cs := by
  refine ⟨⟨h.own.1, ?_⟩, h.lt⟩
  rcases h.own.2 with h2 | ⟨g, cap, cur, h4, h5, h6, h7⟩
  · exact .inl h2
  · injection h4 with h4 hn h11
    subst h4 h11
    exact .inr ⟨g, c, cur, rfl, h5, by rw [hk g rfl]; exact h6, h7⟩

/-- One inner slice, by itself: whatever changes in its block alone changes it alone. -/
theorem OwnII.open_ {w : World} {lo hi n : Nat} {A : Option Addr} {c : Nat} {xss : List (List Int)} (h : OwnII w lo hi A n c xss) {k : Nat} {xs : List Int} (hx : xss[k]? = some xs) :
    ∃ g A' c' l h', A = some ⟨g, 0, none⟩ ∧ w.cell? ⟨g, k, none⟩ = some (.slice A' xs.length c') ∧ OwnI w l h' A' c' xs ∧ xs.length ≤ 9223372036854775807 ∧
      ∀ (w' : World) (ys : List Int), ys.length = xs.length → Upd l h' w w' → OwnC w' l h' 2 1 A' xs.length c' (ys.map (Value.int .i64)) → OwnII w' lo hi A n c (xss.set k ys) ∧ Upd lo hi w w' := by
  obtain ⟨cs, ho, ha, hb, hc⟩ := h.ex
  have hk : k < xss.length := (List.getElem?_eq_some_iff.1 hx).1
  obtain ⟨A', c', h1, h2⟩ := hb k xs hx
  obtain ⟨g, rfl, hg1, hg2, hcell, _⟩ := ho.cell (j := k) (by omega)
  have h1' := h1
  rw [List.getElem?_eq_getElem (by omega)] at h1'
  injection h1' with h1'
  rw [h1'] at hcell
  have tight : ∃ l h', OwnI w l h' A' c' xs ∧ (∀ j, l ≤ j → j < h' → A' = some ⟨j, 0, none⟩ ∧ lo ≤ j ∧ j < hi ∧ j ≠ g) := by
    rcases h2.form with ⟨rfl, hn, rfl, _⟩ | ⟨q, cur, rfl, hq1, hq2, hq3, hq4⟩
    · have hxs : xs = [] := List.eq_nil_of_length_eq_zero hn
      subst hxs
      exact ⟨0, 0, OwnC.nil _ _ _ _ _, fun j _ h => by omega⟩
    · refine ⟨q, q + 1, ⟨⟨h2.own.1, .inr ⟨q, c', cur, rfl, Nat.le_refl _, hq3, hq4⟩⟩, fun a e => by injection e with e; subst e; exact Nat.lt_succ_self _⟩, fun j hj1 hj2 => ?_⟩
      obtain rfl : j = q := by omega
      refine ⟨rfl, hq1, hq2, ?_⟩
      rintro rfl
      rcases ho.form with ⟨h, _⟩ | ⟨q', cur', h, _, _, h4, _⟩
      · simp at h
      · injection h with h
        injection h with h
        subst h
        rw [hq3] at h4
        injection h4 with h4
        injection h4 with _ h4
        simp at h4
  obtain ⟨l, h', hl1, hl2⟩ := tight
  refine ⟨g, A', c', l, h', rfl, hcell, hl1, hl1.maxc, fun w' ys hlen hu hn => ⟨⟨cs, ho.keep1 fun q hq => ?_, by simpa using ha, fun j zs hz => ?_, hc⟩, ?_⟩⟩
  · injection hq with hq
    injection hq with hq
    subst hq
    refine hu.block g (cell_lt hcell) ?_
    rcases Nat.lt_or_ge g l with h | h
    · exact .inl h
    · rcases Nat.lt_or_ge g h' with h3 | h3
      · exact absurd rfl (hl2 g h h3).2.2.2
      · exact .inr h3
  · by_cases e : k = j
    · subst e
      rw [List.getElem?_set_self hk] at hz
      injection hz with hz
      subst hz
      refine ⟨A', c', by rw [hlen]; exact h1, ?_⟩
      rw [← hlen] at hn
      refine ⟨⟨hn.own.1, ?_⟩, fun a haa => ?_⟩
      · rcases hn.own.2 with h3 | ⟨q, cap, cur, h3, h4, h5⟩
        · exact .inl h3
        · injection h3 with h3 hn' hcc
          have := hl2 q h4 (by have := hn.lt _ h3; exact this)
          exact .inr ⟨q, cap, cur, by rw [h3, hcc], this.2.1, h5⟩
      · subst haa
        rcases hn.form with ⟨h3, _⟩ | ⟨q, cur, h3, h4, h5, _⟩
        · simp at h3
        · injection h3 with h3
          subst h3
          exact (hl2 q h4 h5).2.2.1
    · rw [List.getElem?_set_ne e] at hz
      obtain ⟨A2, c2, h5, h6⟩ := hb j zs hz
      refine ⟨A2, c2, h5, h6.keep1 fun q hq => ?_⟩
      subst hq
      have hql : q < w.heap.size := by
        rcases h6.form with ⟨h, _⟩ | ⟨q', cur', h, _, _, h4, _⟩
        · simp at h
        · injection h with h
          injection h with h
          subst h
          exact (Array.getElem?_eq_some_iff.1 h4).1
      refine hu.block q hql ?_
      rcases Nat.lt_or_ge q l with h | h
      · exact .inl h
      · rcases Nat.lt_or_ge q h' with h3 | h3
        · have := (hl2 q h h3).1
          subst this
          exact absurd (hc k j _ _ q h1 h5 rfl rfl) e
        · exact .inr h3
  · exact ⟨hu.os, hu.tape, hu.output, hu.size, fun q hq hj => hu.block q hq (by
      rcases Nat.lt_or_ge q l with h | h
      · exact .inl h
      · rcases Nat.lt_or_ge q h' with h3 | h3
        · have := hl2 q h h3; omega
        · exact .inr h3)⟩

end Go.Proofs.YthjamohaeahipaaGreat

/- Slices of slices of numbers: the helpers of the laws. -/
namespace Go.Proofs.YthjamohaeahipaaGreat
open Go.RowKit

def Drawn (w wr : World) : Prop := ∃ n, wr = w.drewN n
theorem Drawn.refl (w : World) : Drawn w w := ⟨0, rfl⟩
theorem Drawn.drewN {w wr : World} (h : Drawn w wr) (k : Nat) : Drawn w (wr.drewN k) := by
  obtain ⟨n, rfl⟩ := h
  exact ⟨n + k, by simp⟩
theorem Drawn.cells {w wr : World} (h : Drawn w wr) : ∀ a v, w.cell? a = some v → wr.cell? a = some v := by
  obtain ⟨n, rfl⟩ := h
  exact fun _ _ h => h

def marksII (k : Int) : List (List Int) → List (List Int)
  | [] => []
  | xs :: r => marksI k xs.length :: marksII (k + xs.length) r
theorem marksII_length (k : Int) (xss : List (List Int)) : (marksII k xss).length = xss.length := by
  induction xss generalizing k with
  | nil => rfl
  | cons x r ih => simp [marksII, ih]
theorem marksII_append (k : Int) (a b : List (List Int)) : marksII k (a ++ b) = marksII k a ++ marksII (k + cntII a) b := by
  induction a generalizing k with
  | nil => simp [marksII, cntII]
  | cons x r ih => simp [marksII, cntII, ih, Int.add_assoc]
theorem marksII_snoc {k : Int} {xss : List (List Int)} {j : Nat} {xs : List Int} (h : xss[j]? = some xs) : marksII k (xss.take (j + 1)) = marksII k (xss.take j) ++ [marksI (k + cntII (xss.take j)) xs.length] := by
  rw [take_snoc h, marksII_append]; simp [marksII]
theorem marksII_at {k : Int} {xss : List (List Int)} {j : Nat} {xs : List Int} (h : xss[j]? = some xs) : (marksII k xss)[j]? = some (marksI (k + cntII (xss.take j)) xs.length) := by
  obtain ⟨hj, rfl⟩ := List.getElem?_eq_some_iff.1 h
  have e : xss = xss.take j ++ xss[j] :: xss.drop (j + 1) := by rw [List.getElem_cons_drop, List.take_append_drop]
  have hlen : (marksII k (xss.take j)).length = j := by rw [marksII_length, List.length_take]; omega
  have e2 := congrArg (fun l => (marksII k l)[j]?) e
  rw [e2, marksII_append, List.getElem?_append_right (by omega), hlen]
  simp [marksII]


end Go.Proofs.YthjamohaeahipaaGreat

/- Slices of rows: how they are read and owned. -/
namespace Go.Proofs.YthjamohaeahipaaGreat
open Go.RowKit

structure RowD where
  d : Int
  r : Int
  s : List Int
instance : DecidableEq RowD := fun a b => decidable_of_iff (a.d = b.d ∧ a.r = b.r ∧ a.s = b.s) ⟨fun h => by cases a; cases b; simp_all, fun h => by simp [h]⟩

def RowsR (w : World) (A : Option Addr) (rs : List RowD) : Prop :=
  ∀ k, k < rs.length → ∃ b off A' c' r, A = some ⟨b, off, none⟩ ∧ rs[k]? = some r ∧ w.cell? ⟨b, off + k * 3, none⟩ = some (.int .i64 r.d) ∧ w.cell? ⟨b, off + k * 3 + 1, none⟩ = some (.int .i64 r.r) ∧ w.cell? ⟨b, off + k * 3 + 2, none⟩ = some (.slice A' r.s.length c') ∧ Ints w A' r.s ∧ r.s.length ≤ 9223372036854775807
theorem RowsR.of_cells {w w' : World} {A : Option Addr} {rs : List RowD} (h : RowsR w A rs) (hk : ∀ a v, w.cell? a = some v → w'.cell? a = some v) : RowsR w' A rs :=
  fun k hk' => by
    obtain ⟨b, off, A', c', r, hA, hx, h0, h1, h2, hi, hl⟩ := h k hk'
    exact ⟨b, off, A', c', r, hA, hx, hk _ _ h0, hk _ _ h1, hk _ _ h2, hi.of_cells hk, hl⟩
theorem RowsR.below {w w' : World} {A : Option Addr} {rs : List RowD} (h : RowsR w A rs) (hb : Below w.heap.size w w') : RowsR w' A rs := h.of_cells (cells_below hb)
theorem RowsR.nil {w : World} {A : Option Addr} : RowsR w A [] := fun k hk => by simp at hk

def lenRows : List RowD → Nat
  | [] => 0
  | r :: rs => r.s.length + lenRows rs
def sizeRows (rs : List RowD) : Nat := rs.length + lenRows rs
def cntRows (rs : List RowD) : Nat := 2 * rs.length + lenRows rs
theorem lenRows_append (a b : List RowD) : lenRows (a ++ b) = lenRows a + lenRows b := by
  induction a with
  | nil => simp [lenRows]
  | cons x r ih => simp [lenRows, ih]; omega
theorem lenRows_snoc {rs : List RowD} {k : Nat} {r : RowD} (h : rs[k]? = some r) : lenRows (rs.take (k + 1)) = lenRows (rs.take k) + r.s.length := by
  rw [take_snoc h, lenRows_append]; simp [lenRows]
theorem lenRows_take_le (rs : List RowD) (k : Nat) : lenRows (rs.take k) ≤ lenRows rs := by
  have := lenRows_append (rs.take k) (rs.drop k)
  rw [List.take_append_drop] at this
  omega
theorem lenRows_at {rs : List RowD} {k : Nat} {r : RowD} (h : rs[k]? = some r) : lenRows (rs.take k) + r.s.length ≤ lenRows rs := by
  rw [← lenRows_snoc h]; exact lenRows_take_le _ _

def CellsRows (w : World) (lo hi : Nat) (cs : List Value) (rs : List RowD) : Prop :=
  cs.length = rs.length * 3 ∧ (∀ (k : Nat) (r : RowD), rs[k]? = some r → ∃ (A' : Option Addr) (c' : Nat), cs[k * 3]? = some (Value.int .i64 r.d) ∧ cs[k * 3 + 1]? = some (Value.int .i64 r.r) ∧ cs[k * 3 + 2]? = some (Value.slice A' r.s.length c') ∧ OwnI w lo hi A' c' r.s) ∧
  ∀ (i j : Nat) (v v' : Value) (g : Nat), cs[i]? = some v → cs[j]? = some v' → v.ownBlock = some g → v'.ownBlock = some g → i = j
theorem CellsRows.keep {w w' : World} {lo hi : Nat} {cs : List Value} {rs : List RowD} (h : CellsRows w lo hi cs rs) (hk : ∀ k, lo ≤ k → k < hi → k < w.heap.size → w'.heap[k]? = w.heap[k]?) : CellsRows w' lo hi cs rs :=
  ⟨h.1, fun k r hx => by obtain ⟨A', c', h0, h1, h2, h3⟩ := h.2.1 k r hx; exact ⟨A', c', h0, h1, h2, h3.keep hk⟩, h.2.2⟩
theorem CellsRows.mono {w : World} {lo hi lo' hi' : Nat} {cs : List Value} {rs : List RowD} (h : CellsRows w lo hi cs rs) (h1 : lo' ≤ lo) (h2 : hi ≤ hi') : CellsRows w lo' hi' cs rs :=
  ⟨h.1, fun k r hx => by obtain ⟨A', c', h3, h4, h5, h6⟩ := h.2.1 k r hx; exact ⟨A', c', h3, h4, h5, h6.mono h1 h2⟩, h.2.2⟩
/-- Every cell is a number, or a slice in blocks from lo up to hi. -/
theorem CellsRows.block {w : World} {lo hi : Nat} {cs : List Value} {rs : List RowD} (h : CellsRows w lo hi cs rs) {i : Nat} {v : Value} {g : Nat} (hi' : cs[i]? = some v) (hv : v.ownBlock = some g) : lo ≤ g ∧ g < hi ∧ ∃ k r, rs[k]? = some r ∧ i = k * 3 + 2 := by
  have hil : i < cs.length := (List.getElem?_eq_some_iff.1 hi').1
  have hkl : i / 3 < rs.length := by have := h.1; omega
  obtain ⟨A', c', h0, h1, h2, h3⟩ := h.2.1 (i / 3) _ (List.getElem?_eq_getElem hkl)
  have : i = i / 3 * 3 ∨ i = i / 3 * 3 + 1 ∨ i = i / 3 * 3 + 2 := by omega
  rcases this with e | e | e
  · rw [← e, hi'] at h0
    injection h0 with h0
    subst h0
    simp [Value.ownBlock] at hv
  · rw [← e, hi'] at h1
    injection h1 with h1
    subst h1
    simp [Value.ownBlock] at hv
  · rw [← e, hi'] at h2
    injection h2 with h2
    subst h2
    have := h3.own.lt g hv
    refine ⟨this.1, ?_, i / 3, _, List.getElem?_eq_getElem hkl, e⟩
    cases A' with
    | none => simp [Value.ownBlock] at hv
    | some a => simp [Value.ownBlock] at hv; subst hv; exact h3.lt a rfl

structure OwnRows (w : World) (lo hi : Nat) (A : Option Addr) (n c : Nat) (rs : List RowD) : Prop where
  ex : ∃ cs, OwnC w lo hi 26 3 A n c cs ∧ CellsRows w lo hi cs rs
section
variable {w w' : World} {lo hi n : Nat} {A : Option Addr} {c : Nat} {rs : List RowD}
theorem OwnRows.keep (h : OwnRows w lo hi A n c rs) (hk : ∀ k, lo ≤ k → k < hi → k < w.heap.size → w'.heap[k]? = w.heap[k]?) : OwnRows w' lo hi A n c rs := by
  obtain ⟨cs, h1, h2⟩ := h.ex
  exact ⟨cs, h1.keep hk, h2.keep hk⟩
theorem OwnRows.below {B : Nat} (h : OwnRows w lo hi A n c rs) (hb : Below B w w') (hB : hi ≤ B) : OwnRows w' lo hi A n c rs := h.keep fun k _ h2 _ => hb.block k (by omega)
theorem OwnRows.upd {l2 h2 : Nat} (h : OwnRows w lo hi A n c rs) (hb : Upd l2 h2 w w') (hB : hi ≤ l2 ∨ h2 ≤ lo) : OwnRows w' lo hi A n c rs := h.keep fun k h3 h4 h5 => hb.block k h5 (by omega)
theorem OwnRows.mono {lo' hi' : Nat} (h : OwnRows w lo hi A n c rs) (h1 : lo' ≤ lo) (h2 : hi ≤ hi') : OwnRows w lo' hi' A n c rs := by
  obtain ⟨cs, h3, h4⟩ := h.ex
  exact ⟨cs, h3.mono h1 h2, h4.mono h1 h2⟩
theorem OwnRows.alloc (h : OwnRows w lo hi A n c rs) (o : Obj) : OwnRows (w.alloc o) lo hi A n c rs := h.keep fun k _ _ h4 => Below.heap_alloc w o k h4
theorem OwnRows.far (h : OwnRows w lo hi A n c rs) {p : Addr} (hp : p.block < lo ∨ hi ≤ p.block) (u : Value) : OwnRows (w.setCell p u) lo hi A n c rs :=
  h.keep fun k h2 h3 _ => Below.heap_setCell w p u k (by omega)
theorem OwnRows.len (h : OwnRows w lo hi A n c rs) : rs.length = n := by
  obtain ⟨cs, h1, h2⟩ := h.ex
  have := h1.len
  have := h2.1
  omega
theorem OwnRows.cap (h : OwnRows w lo hi A n c rs) : n ≤ c := by obtain ⟨_, h1, _⟩ := h.ex; exact h1.cap
theorem OwnRows.maxc (h : OwnRows w lo hi A n c rs) : n ≤ 9223372036854775807 := by obtain ⟨_, h1, _⟩ := h.ex; exact h1.maxc
theorem OwnRows.rowsR (h : OwnRows w lo hi A n c rs) : RowsR w A rs := by
  obtain ⟨cs, h1, h2, h3, _⟩ := h.ex
  intro k hk
  have hx : rs[k]? = some rs[k] := List.getElem?_eq_getElem hk
  obtain ⟨A', c', e0, e1, e2, h5⟩ := h3 k _ hx
  obtain ⟨g, rfl, _, _, q0, _⟩ := h1.cell (j := k * 3) (by omega)
  obtain ⟨_, hA, _, _, q1, _⟩ := h1.cell (j := k * 3 + 1) (by omega)
  injection hA with hA
  injection hA with hA
  subst hA
  obtain ⟨_, hA, _, _, q2, _⟩ := h1.cell (j := k * 3 + 2) (by omega)
  injection hA with hA
  injection hA with hA
  subst hA
  rw [List.getElem?_eq_getElem (by omega)] at e0 e1 e2
  injection e0 with e0
  injection e1 with e1
  injection e2 with e2
  rw [e0] at q0
  rw [e1] at q1
  rw [e2] at q2
  exact ⟨g, 0, A', c', rs[k], rfl, hx, by simpa using q0, by simpa using q1, by simpa using q2, h5.ints, h5.maxc⟩
end
theorem info_Row : (Tryz.prog.info? 26).map (fun i => (i.zero, i.size, i.bytes)) = some (some (.agg #[.int .i64 0, .int .i64 0, .slice none 0 0]), 3, 40) := by kernel_rfl

def zeroRow : RowD := ⟨0, 0, []⟩
def zeroCells3 (n : Nat) : List Value := (madeCells (Value.agg #[.int .i64 0, .int .i64 0, .slice none 0 0]).cells (n * 3)).toList
theorem zeroCells3_at {n k : Nat} (h : k < n) : (zeroCells3 n)[k * 3]? = some (.int .i64 0) ∧ (zeroCells3 n)[k * 3 + 1]? = some (.int .i64 0) ∧ (zeroCells3 n)[k * 3 + 2]? = some (.slice none 0 0) := by
  unfold zeroCells3 madeCells
  simp only [Value.cells, Array.toList_map, Array.toList_range, List.getElem?_map]
  rw [List.getElem?_range (by omega), List.getElem?_range (by omega), List.getElem?_range (by omega)]
  simp [Nat.mul_mod_left, Nat.add_mod]
theorem zeroCells3_length (n : Nat) : (zeroCells3 n).length = n * 3 := by simp [zeroCells3, madeCells]
theorem CellsRows.zeros {w : World} {lo hi n : Nat} : CellsRows w lo hi (zeroCells3 n) (List.replicate n zeroRow) := by
  refine ⟨by rw [zeroCells3_length]; simp, fun k r hx => ?_, fun i j v v' g hi' hj hv hv' => ?_⟩
  · by_cases hk : k < n
    · simp [hk] at hx
      subst hx
      obtain ⟨h0, h1, h2⟩ := zeroCells3_at hk
      exact ⟨none, 0, h0, h1, h2, OwnC.nil _ _ _ _ _⟩
    · simp [hk] at hx
  · have hil : i < n * 3 := by have := (List.getElem?_eq_some_iff.1 hi').1; rwa [zeroCells3_length] at this
    obtain ⟨h0, h1, h2⟩ := zeroCells3_at (n := n) (k := i / 3) (by omega)
    have : i = i / 3 * 3 ∨ i = i / 3 * 3 + 1 ∨ i = i / 3 * 3 + 2 := by omega
    rcases this with e | e | e
    · rw [← e, hi'] at h0; injection h0 with h0; subst h0; simp [Value.ownBlock] at hv
    · rw [← e, hi'] at h1; injection h1 with h1; subst h1; simp [Value.ownBlock] at hv
    · rw [← e, hi'] at h2; injection h2 with h2; subst h2; simp [Value.ownBlock] at hv

theorem get_set3 {α : Type} {cs : List α} {k j : Nat} (a b c : α) : (((cs.set (k * 3) a).set (k * 3 + 1) b).set (k * 3 + 2) c)[j]? =
    if j = k * 3 + 2 ∧ j < cs.length then some c else if j = k * 3 + 1 ∧ j < cs.length then some b else if j = k * 3 ∧ j < cs.length then some a else cs[j]? := by
  simp only [List.getElem?_set, List.length_set]
  by_cases h2 : k * 3 + 2 = j
  · subst h2
    by_cases hl : k * 3 + 2 < cs.length
    · simp [hl]
    · simp [hl]
  · by_cases h1 : k * 3 + 1 = j
    · subst h1
      by_cases hl : k * 3 + 1 < cs.length
      · simp [hl]
      · simp [hl]
    · by_cases h0 : k * 3 = j
      · subst h0
        by_cases hl : k * 3 < cs.length
        · simp [hl]
        · simp [hl]
      · simp [h0, h1, h2, Ne.symm h0, Ne.symm h1, Ne.symm h2]

/-- One row is put in place of another; its slice lies in blocks from hi on. -/
theorem CellsRows.set {w : World} {lo hi l2 h2 : Nat} {cs : List Value} {rs : List RowD} {k : Nat} {A' : Option Addr} {c' : Nat} {r : RowD}
    (h : CellsRows w lo hi cs rs) (ho : OwnI w l2 h2 A' c' r.s) (h1 : hi ≤ l2) (h3 : hi ≤ h2) (h4 : lo ≤ l2) (hk : k < rs.length) :
    CellsRows w lo h2 (((cs.set (k * 3) (.int .i64 r.d)).set (k * 3 + 1) (.int .i64 r.r)).set (k * 3 + 2) (.slice A' r.s.length c')) (rs.set k r) := by
  obtain ⟨ha, hb, hc⟩ := id h
  refine ⟨by simpa using ha, fun j r' hy => ?_, fun i j v v' g hi' hj hv hv' => ?_⟩
  · by_cases e : k = j
    · subst e
      rw [List.getElem?_set_self hk] at hy
      injection hy with hy
      subst hy
      exact ⟨A', c', by rw [get_set3]; simp; omega, by rw [get_set3]; simp; omega, by rw [get_set3]; simp; omega, ho.mono h4 (Nat.le_refl _)⟩
    · rw [List.getElem?_set_ne e] at hy
      obtain ⟨A2, c2, h5, h6, h7, h8⟩ := hb j r' hy
      refine ⟨A2, c2, ?_, ?_, ?_, h8.mono (Nat.le_refl _) h3⟩
      · rw [get_set3, if_neg (by omega), if_neg (by omega), if_neg (by omega)]; exact h5
      · rw [get_set3, if_neg (by omega), if_neg (by omega), if_neg (by omega)]; exact h6
      · rw [get_set3, if_neg (by omega), if_neg (by omega), if_neg (by omega)]; exact h7
  · have cases_ : ∀ (i : Nat) (v : Value), (((cs.set (k * 3) (Value.int .i64 r.d)).set (k * 3 + 1) (Value.int .i64 r.r)).set (k * 3 + 2) (Value.slice A' r.s.length c'))[i]? = some v → v.ownBlock = some g →
        (i = k * 3 + 2 ∧ hi ≤ g) ∨ (g < hi ∧ cs[i]? = some v ∧ i ≠ k * 3 + 2) := by
      intro i v h7 h8
      rw [get_set3] at h7
      split at h7
      · rename_i hh
        injection h7 with h7
        subst h7
        have := ho.own.lt g h8
        exact .inl ⟨hh.1, by omega⟩
      · split at h7
        · injection h7 with h7
          subst h7
          simp [Value.ownBlock] at h8
        · split at h7
          · injection h7 with h7
            subst h7
            simp [Value.ownBlock] at h8
          · rename_i n1 n2 n3
            have hil : i < cs.length := (List.getElem?_eq_some_iff.1 h7).1
            exact .inr ⟨(h.block h7 h8).2.1, h7, fun e => n1 ⟨e, hil⟩⟩
    rcases cases_ i v hi' hv with ⟨e1, g1⟩ | ⟨g1, q1, e1⟩
    · rcases cases_ j v' hj hv' with ⟨e2, g2⟩ | ⟨g2, q2, e2⟩
      · omega
      · omega
    · rcases cases_ j v' hj hv' with ⟨e2, g2⟩ | ⟨g2, q2, e2⟩
      · omega
      · exact hc i j v v' g q1 q2 hv hv'

/-- The cells of one row, and its slice by itself: whatever changes in the slice's block alone changes it alone. -/
theorem OwnRows.open_ {w : World} {lo hi n : Nat} {A : Option Addr} {c : Nat} {rs : List RowD} (h : OwnRows w lo hi A n c rs) {k : Nat} {r : RowD} (hx : rs[k]? = some r) :
    ∃ g A' c' l h', A = some ⟨g, 0, none⟩ ∧ lo ≤ g ∧ g < hi ∧ w.cell? ⟨g, k * 3, none⟩ = some (.int .i64 r.d) ∧ w.cell? ⟨g, k * 3 + 1, none⟩ = some (.int .i64 r.r) ∧ w.cell? ⟨g, k * 3 + 2, none⟩ = some (.slice A' r.s.length c') ∧
      (∀ i, w.frozen? ⟨g, i, none⟩ = false) ∧ OwnI w l h' A' c' r.s ∧ r.s.length ≤ 9223372036854775807 ∧
      ∀ (w' : World) (d' r' : Int) (ys : List Int), ys.length = r.s.length → Upd l h' ((w.setCell ⟨g, k * 3, none⟩ (.int .i64 d')).setCell ⟨g, k * 3 + 1, none⟩ (.int .i64 r')) w' →
        OwnC w' l h' 2 1 A' r.s.length c' (ys.map (Value.int .i64)) → OwnRows w' lo hi A n c (rs.set k ⟨d', r', ys⟩) ∧ Upd lo hi w w' := by
  obtain ⟨cs, ho, ha, hb, hc⟩ := h.ex
  have hk : k < rs.length := (List.getElem?_eq_some_iff.1 hx).1
  obtain ⟨A', c', e0, e1, e2, h2⟩ := hb k r hx
  obtain ⟨g, rfl, hg1, hg2, q0, _⟩ := ho.cell (j := k * 3) (by omega)
  obtain ⟨_, hA, _, _, q1, _⟩ := ho.cell (j := k * 3 + 1) (by omega)
  injection hA with hA
  injection hA with hA
  subst hA
  obtain ⟨_, hA, _, _, q2, _⟩ := ho.cell (j := k * 3 + 2) (by omega)
  injection hA with hA
  injection hA with hA
  subst hA
  have e0' := e0; have e1' := e1; have e2' := e2
  rw [List.getElem?_eq_getElem (by omega)] at e0' e1' e2'
  injection e0' with e0'
  injection e1' with e1'
  injection e2' with e2'
  rw [e0'] at q0
  rw [e1'] at q1
  rw [e2'] at q2
  have tight : ∃ l h', OwnI w l h' A' c' r.s ∧ (∀ j, l ≤ j → j < h' → A' = some ⟨j, 0, none⟩ ∧ lo ≤ j ∧ j < hi ∧ j ≠ g) := by
    rcases h2.form with ⟨rfl, hn, rfl, _⟩ | ⟨q, cur, rfl, hq1, hq2, hq3, hq4⟩
    · refine ⟨0, 0, ?_, fun j _ h => by omega⟩
      have hxs : r.s = [] := List.eq_nil_of_length_eq_zero hn
      rw [hxs]
      exact OwnC.nil _ _ _ _ _
    · refine ⟨q, q + 1, ⟨⟨h2.own.1, .inr ⟨q, c', cur, rfl, Nat.le_refl _, hq3, hq4⟩⟩, fun a e => by injection e with e; subst e; exact Nat.lt_succ_self _⟩, fun j hj1 hj2 => ?_⟩
      obtain rfl : j = q := by omega
      refine ⟨rfl, hq1, hq2, ?_⟩
      rintro rfl
      rcases ho.form with ⟨h, _⟩ | ⟨q', cur', h, _, _, h4, _⟩
      · simp at h
      · injection h with h
        injection h with h
        subst h
        rw [hq3] at h4
        injection h4 with h4
        injection h4 with _ h4
        simp at h4
  obtain ⟨l, h', hl1, hl2⟩ := tight
  have hfz : ∀ i, w.frozen? ⟨g, i, none⟩ = false := by
    intro i
    rcases ho.form with ⟨h, _⟩ | ⟨q', cur', h, _, _, h4, _⟩
    · simp at h
    · injection h with h
      injection h with h
      subst h
      exact frozen_of_row w _ i cur' _ h4
  have hgl : g < w.heap.size := cell_lt q0
  refine ⟨g, A', c', l, h', rfl, hg1, hg2, q0, q1, q2, hfz, hl1, hl1.maxc, fun w' d' r' ys hlen hu hn => ?_⟩
  have hblk : ∀ q, q < w.heap.size → (q < l ∨ h' ≤ q) → q ≠ g → w'.heap[q]? = w.heap[q]? := by
    intro q h1 h2 h3
    rw [hu.block q (by simpa using h1) h2, Below.heap_setCell _ _ _ _ h3, Below.heap_setCell _ _ _ _ h3]
  have hog : OwnC w' lo hi 26 3 (some ⟨g, 0, none⟩) n c ((cs.set (k * 3) (.int .i64 d')).set (k * 3 + 1) (.int .i64 r')) := by
    refine ((ho.store (.int .i64 d')).1.store (.int .i64 r')).1.keep1 fun q hq => ?_
    injection hq with hq
    injection hq with hq
    subst hq
    refine hu.block g (by simpa using hgl) ?_
    rcases Nat.lt_or_ge g l with h | h
    · exact .inl h
    · rcases Nat.lt_or_ge g h' with h3 | h3
      · exact absurd rfl (hl2 g h h3).2.2.2
      · exact .inr h3
  have hupd : Upd lo hi w w' := ⟨hu.os, hu.tape, hu.output, by simpa using hu.size, fun q hq hj => hblk q hq (by
      rcases Nat.lt_or_ge q l with h | h
      · exact .inl h
      · rcases Nat.lt_or_ge q h' with h3 | h3
        · have := hl2 q h h3; omega
        · exact .inr h3) (by omega)⟩
  have hnew : OwnI w' lo hi A' c' ys := by
    rw [← hlen] at hn
    refine ⟨⟨hn.own.1, ?_⟩, fun a haa => ?_⟩
    · rcases hn.own.2 with h3 | ⟨q, cap, cur, h3, h4, h5⟩
      · exact .inl h3
      · injection h3 with h3 hn' hcc
        have := hl2 q h4 (by have := hn.lt _ h3; exact this)
        exact .inr ⟨q, cap, cur, by rw [h3, hcc], this.2.1, h5⟩
    · subst haa
      rcases hn.form with ⟨h3, _⟩ | ⟨q, cur, h3, h4, h5, _⟩
      · simp at h3
      · injection h3 with h3
        subst h3
        exact (hl2 q h4 h5).2.2.1
  refine ⟨⟨_, hog, ?_⟩, hupd⟩
  refine ⟨by simpa using ha, fun j z hz => ?_, fun i j v v' q hi' hj hv hv' => ?_⟩
  · by_cases e : k = j
    · subst e
      rw [List.getElem?_set_self hk] at hz
      injection hz with hz
      subst hz
      refine ⟨A', c', ?_, ?_, ?_, hnew⟩
      · rw [List.getElem?_set_ne (by omega), List.getElem?_set_self (by omega)]
      · rw [List.getElem?_set_self (by simp; omega)]
      · rw [List.getElem?_set_ne (by omega), List.getElem?_set_ne (by omega), e2, hlen]
    · rw [List.getElem?_set_ne e] at hz
      obtain ⟨A2, c2, z0, z1, z2, h6⟩ := hb j z hz
      refine ⟨A2, c2, ?_, ?_, ?_, h6.keep1 fun q hq => ?_⟩
      · rw [List.getElem?_set_ne (by omega), List.getElem?_set_ne (by omega)]; exact z0
      · rw [List.getElem?_set_ne (by omega), List.getElem?_set_ne (by omega)]; exact z1
      · rw [List.getElem?_set_ne (by omega), List.getElem?_set_ne (by omega)]; exact z2
      · subst hq
        rcases h6.form with ⟨h, _⟩ | ⟨q', cur', h, _, _, h4, _⟩
        · simp at h
        · injection h with h
          injection h with h
          subst h
          refine hblk q (Array.getElem?_eq_some_iff.1 h4).1 ?_ ?_
          · rcases Nat.lt_or_ge q l with h | h
            · exact .inl h
            · rcases Nat.lt_or_ge q h' with h3 | h3
              · have := (hl2 q h h3).1
                subst this
                have := hc (k * 3 + 2) (j * 3 + 2) _ _ q e2 z2 rfl rfl
                omega
              · exact .inr h3
          · rintro rfl
            rcases ho.form with ⟨h, _⟩ | ⟨q', cur2, h, _, _, h9, _⟩
            · simp at h
            · injection h with h
              injection h with h
              subst h
              rw [h4] at h9
              injection h9 with h9
              injection h9 with _ h9
              simp at h9
  · have old : ∀ (i : Nat) (v : Value), ((cs.set (k * 3) (Value.int .i64 d')).set (k * 3 + 1) (Value.int .i64 r'))[i]? = some v → v.ownBlock = some q → cs[i]? = some v := by
      intro i v h7 h8
      rw [List.getElem?_set] at h7
      split at h7
      · split at h7
        · injection h7 with h7
          subst h7
          simp [Value.ownBlock] at h8
        · cases h7
      · rw [List.getElem?_set] at h7
        split at h7
        · split at h7
          · injection h7 with h7
            subst h7
            simp [Value.ownBlock] at h8
          · cases h7
        · exact h7
    exact hc i j v v' q (old i v hi' hv) (old j v' hj hv') hv hv'

end Go.Proofs.YthjamohaeahipaaGreat

/- Slices of rows: the helpers of the laws. -/
namespace Go.Proofs.YthjamohaeahipaaGreat
open Go.RowKit

def marksRows (k : Int) : List RowD → List RowD
  | [] => []
  | r :: rs => ⟨k, k + 1, marksI (k + 2) r.s.length⟩ :: marksRows (k + 2 + r.s.length) rs
theorem marksRows_length (k : Int) (rs : List RowD) : (marksRows k rs).length = rs.length := by
  induction rs generalizing k with
  | nil => rfl
  | cons x r ih => simp [marksRows, ih]
theorem cntRows_append (a b : List RowD) : cntRows (a ++ b) = cntRows a + cntRows b := by simp [cntRows, lenRows_append]; omega
theorem cntRows_snoc {rs : List RowD} {k : Nat} {r : RowD} (h : rs[k]? = some r) : cntRows (rs.take (k + 1)) = cntRows (rs.take k) + 2 + r.s.length := by
  rw [take_snoc h, cntRows_append]; simp [cntRows, lenRows]; omega
theorem cntRows_at {rs : List RowD} {k : Nat} {r : RowD} (h : rs[k]? = some r) : cntRows (rs.take k) + 2 + r.s.length ≤ cntRows rs := by
  rw [← cntRows_snoc h]
  have := cntRows_append (rs.take (k + 1)) (rs.drop (k + 1))
  rw [List.take_append_drop] at this
  omega
theorem marksRows_append (k : Int) (a b : List RowD) : marksRows k (a ++ b) = marksRows k a ++ marksRows (k + cntRows a) b := by
  induction a generalizing k with
  | nil => simp [marksRows, cntRows, lenRows]
  | cons x r ih =>
    have e : k + 2 + (x.s.length : Int) + (cntRows r : Nat) = k + (cntRows (x :: r) : Nat) := by simp [cntRows, lenRows]; omega
    simp only [List.cons_append, marksRows, ih, e]
theorem marksRows_snoc {k : Int} {rs : List RowD} {j : Nat} {r : RowD} (h : rs[j]? = some r) : marksRows k (rs.take (j + 1)) = marksRows k (rs.take j) ++ [⟨k + cntRows (rs.take j), k + cntRows (rs.take j) + 1, marksI (k + cntRows (rs.take j) + 2) r.s.length⟩] := by
  rw [take_snoc h, marksRows_append]; simp [marksRows]
theorem marksRows_at {k : Int} {rs : List RowD} {j : Nat} {r : RowD} (h : rs[j]? = some r) : (marksRows k rs)[j]? = some ⟨k + cntRows (rs.take j), k + cntRows (rs.take j) + 1, marksI (k + cntRows (rs.take j) + 2) r.s.length⟩ := by
  obtain ⟨hj, rfl⟩ := List.getElem?_eq_some_iff.1 h
  have e : rs = rs.take j ++ rs[j] :: rs.drop (j + 1) := by rw [List.getElem_cons_drop, List.take_append_drop]
  have hlen : (marksRows k (rs.take j)).length = j := by rw [marksRows_length, List.length_take]; omega
  have e2 := congrArg (fun l => (marksRows k l)[j]?) e
  rw [e2, marksRows_append, List.getElem?_append_right (by omega), hlen]
  simp [marksRows]


end Go.Proofs.YthjamohaeahipaaGreat

/- Structs of a number and a slice: the helpers of the laws. -/
namespace Go.Proofs.YthjamohaeahipaaGreat
open Go.RowKit


end Go.Proofs.YthjamohaeahipaaGreat

/- Slices of Piece: how they are read and owned, and the helpers of the laws on them. -/
namespace Go.Proofs.YthjamohaeahipaaGreat
open Go.RowKit

structure PieceD where
  kind : Int
  times : Int
  len : Int
instance : DecidableEq PieceD := fun a b => decidable_of_iff (a.kind = b.kind ∧ a.times = b.times ∧ a.len = b.len) ⟨fun h => by cases a; cases b; simp_all, fun h => by simp [h]⟩
def cellsPiece : List PieceD → List Value
  | [] => []
  | p :: ps => .int .i64 p.kind :: .int .i64 p.times :: .int .i64 p.len :: cellsPiece ps

theorem cellsPiece_length (ps : List PieceD) : (cellsPiece ps).length = ps.length * 3 := by
  induction ps with
  | nil => rfl
  | cons p ps ih => simp [cellsPiece, ih]; omega
theorem cellsPiece_snoc (ps : List PieceD) (p : PieceD) : cellsPiece (ps ++ [p]) = cellsPiece ps ++ [.int .i64 p.kind, .int .i64 p.times, .int .i64 p.len] := by
  induction ps with
  | nil => rfl
  | cons q ps ih => simp [cellsPiece, ih]
theorem cellsPiece_at {ps : List PieceD} {i : Nat} {p : PieceD} (h : ps[i]? = some p) : (cellsPiece ps)[i * 3]? = some (.int .i64 p.kind) ∧ (cellsPiece ps)[i * 3 + 1]? = some (.int .i64 p.times) ∧ (cellsPiece ps)[i * 3 + 2]? = some (.int .i64 p.len) := by
  induction ps generalizing i with
  | nil => simp at h
  | cons q ps ih =>
    cases i with
    | zero =>
      simp at h
      subst h
      simp [cellsPiece]
    | succ i =>
      have := ih (i := i) (by simpa using h)
      simp only [Nat.succ_mul, cellsPiece]
      simpa [Nat.add_right_comm] using this
def Pieces (w : World) (A : Option Addr) (ps : List PieceD) : Prop :=
  ∀ k, k < ps.length → ∃ b off p, A = some ⟨b, off, none⟩ ∧ ps[k]? = some p ∧ w.cell? ⟨b, off + k * 3, none⟩ = some (.int .i64 p.kind) ∧ w.cell? ⟨b, off + k * 3 + 1, none⟩ = some (.int .i64 p.times) ∧ w.cell? ⟨b, off + k * 3 + 2, none⟩ = some (.int .i64 p.len)
theorem Pieces.of_cells {w w' : World} {A : Option Addr} {ps : List PieceD} (h : Pieces w A ps) (hk : ∀ a v, w.cell? a = some v → w'.cell? a = some v) : Pieces w' A ps :=
  fun k hk' => by
    obtain ⟨b, off, p, hA, hp, h0, h1, h2⟩ := h k hk'
    exact ⟨b, off, p, hA, hp, hk _ _ h0, hk _ _ h1, hk _ _ h2⟩
theorem Pieces.below {w w' : World} {A : Option Addr} {ps : List PieceD} (h : Pieces w A ps) (hb : Below w.heap.size w w') : Pieces w' A ps := h.of_cells (cells_below hb)
theorem Pieces.drewN {w : World} {A : Option Addr} {ps : List PieceD} (h : Pieces w A ps) (n : Nat) : Pieces (w.drewN n) A ps := h
theorem Pieces.nil {w : World} {A : Option Addr} : Pieces w A [] := fun k hk => by simp at hk

def marksPiece (k : Int) (m : Nat) : List PieceD := (List.range m).map fun (i : Nat) => ⟨k + 3 * i, k + 3 * i + 1, k + 3 * i + 2⟩
theorem marksPiece_length (k : Int) (m : Nat) : (marksPiece k m).length = m := by simp [marksPiece]
theorem marksPiece_snoc (k : Int) (m : Nat) : marksPiece k (m + 1) = marksPiece k m ++ [⟨k + 3 * m, k + 3 * m + 1, k + 3 * m + 2⟩] := by simp [marksPiece, List.range_succ]
theorem marksPiece_at {k : Int} {m i : Nat} {p : PieceD} (h : (marksPiece k m)[i]? = some p) : p = ⟨k + 3 * i, k + 3 * i + 1, k + 3 * i + 2⟩ := by
  simp only [marksPiece, List.getElem?_map, Option.map_eq_some_iff] at h
  obtain ⟨j, hj, rfl⟩ := h
  obtain ⟨hl, he⟩ := List.getElem?_eq_some_iff.1 hj
  simp at he
  subst he
  rfl


end Go.Proofs.YthjamohaeahipaaGreat

/- Arguments of the laws, opened: slices of slices, of rows, of pieces. -/
namespace Go.Proofs.YthjamohaeahipaaGreat
open Go.ChangeShapes Go.WideShapes Go.ChangeAt Go.RowKit
open Go.ChangeMaps (open_string shut_string)

section
variable {H : Type} {enc : TypeId × Value → H} {W : World} {base : Nat} {v : Value} {d : DataW H} {p : List MemPlace} {fuel : Nat} {cs : List Value} {x : DataW H × List MemPlace} {b0 : Nat}

theorem collect {α : Type} {P : Nat → α → Prop} (n : Nat) (h : ∀ i, i < n → ∃ x, P i x) : ∃ l : List α, l.length = n ∧ ∀ i x, l[i]? = some x → P i x := by
  induction n with
  | zero => exact ⟨[], rfl, fun i x h => by simp at h⟩
  | succ n ih =>
    obtain ⟨l, h1, h2⟩ := ih fun i hi => h i (by omega)
    obtain ⟨x, hx⟩ := h n (by omega)
    refine ⟨l ++ [x], by simp [h1], fun i y hy => ?_⟩
    by_cases hi' : i < n
    · exact h2 i y (by rw [List.getElem?_append_left (by omega)] at hy; exact hy)
    · rw [List.getElem?_append_right (by omega), h1] at hy
      obtain rfl : i = n := by
        have := (List.getElem?_eq_some_iff.1 hy).1
        simp at this; omega
      simp at hy
      subst hy
      exact hx

/-- A slice that came in: the cells of each element, and their reading. -/
theorem slice_rows {t e : TypeId} {sz : Nat} (ht : Tryz.prog.underlying t = some (.slice e)) (hC : Tryz.prog.cellsOf e = sz) (hsz : 0 < sz) (h : DataW.trod enc Tryz.prog W b0 (fun _ => true) true fuel t cs = some x) :
    ∃ A len cap n, cs = [.slice A len cap] ∧ len ≤ 9223372036854775807 ∧ ∀ i, i < len → ∃ b off cs' y, A = some ⟨b, off, none⟩ ∧ cs'.length = sz ∧ (∀ j, j < sz → W.cell? ⟨b, off + i * sz + j, none⟩ = cs'[j]?) ∧ DataW.trod enc Tryz.prog W b0 (fun _ => true) true n e cs' = some y := by
  rcases Go.Deep.open_slice ht h with ⟨hcs, _⟩ | ⟨a, len, cap, m, n, D, Pl, hcs, _, hl, hm, hmm, _, hi⟩
  · exact ⟨none, 0, 0, 0, hcs, Nat.zero_le _, fun i hi => absurd hi (Nat.not_lt_zero _)⟩
  · simp only [if_true] at hmm
    rw [hC] at hi
    refine ⟨some a, len, cap, n, hcs, by unfold maxLen at hm; omega, fun i hil => ?_⟩
    obtain ⟨cs', hc, ht⟩ := hi i (by omega)
    obtain ⟨_, hcl, hat⟩ := World.cells?_some hc
    obtain ⟨cs0, hc0, _⟩ := hi 0 (by omega)
    obtain ⟨_, hcl0, hat0⟩ := World.cells?_some hc0
    have h00 := hat0 0 (by omega)
    rw [List.getElem?_eq_getElem (by omega)] at h00
    have ha : a = ⟨a.block, a.off, none⟩ := addr_of_cell (w := W) (v := cs0[0]'(by omega)) (by simpa [Addr.add] using h00)
    refine ⟨a.block, a.off, cs', _, by rw [← ha], hcl, fun j hj => ?_, ht⟩
    have := hat j hj
    rw [ha, add_form, add_form] at this
    exact this

theorem trod_ints2 (h : DataW.trod enc Tryz.prog W b0 (fun _ => true) true fuel 71 cs = some x) :
    ∃ A c xss, cs = [.slice A xss.length c] ∧ Ints2 W A xss ∧ xss.length ≤ 9223372036854775807 := by
  obtain ⟨A, len, cap, n, rfl, hl, hi⟩ := slice_rows Tryz.underlying71 (sz := 1) (by kernel_rfl) (by decide) h
  obtain ⟨xss, rfl, hx⟩ := collect (P := fun i (xs : List Int) => ∃ b off A' c', A = some ⟨b, off, none⟩ ∧ W.cell? ⟨b, off + i, none⟩ = some (.slice A' xs.length c') ∧ Ints W A' xs ∧ xs.length ≤ 9223372036854775807) len fun i hil => by
    obtain ⟨b, off, cs', y, rfl, hcl, hat, ht⟩ := hi i hil
    obtain ⟨A', c', xs, rfl, h1, h2⟩ := trod_ints ht
    exact ⟨xs, b, off, A', c', rfl, by simpa using hat 0 (by decide), h1, h2⟩
  refine ⟨A, cap, xss, rfl, fun k hk => ?_, hl⟩
  obtain ⟨b, off, A', c', h1, h2, h3, h4⟩ := hx k _ (List.getElem?_eq_getElem hk)
  exact ⟨b, off, A', c', xss[k], h1, List.getElem?_eq_getElem hk, h2, h3, h4⟩

end

end Go.Proofs.YthjamohaeahipaaGreat

/- The draws: the numbers of the source, plain. -/
namespace Go.Proofs.YthjamohaeahipaaGreat
open Go Go.RowKit

def iterN (f : Nat → Nat) : Nat → Nat → Nat
  | 0, s => s
  | n + 1, s => iterN f n (f s)
theorem iterN_zero (f : Nat → Nat) (s : Nat) : iterN f 0 s = s := rfl
theorem iterN_succ (f : Nat → Nat) (n s : Nat) : iterN f (n + 1) s = iterN f n (f s) := rfl
theorem iterN_add (f : Nat → Nat) (a b s : Nat) : iterN f (a + b) s = iterN f b (iterN f a s) := by
  induction a generalizing s with
  | zero => rw [Nat.zero_add, iterN_zero]
  | succ a ih => rw [Nat.succ_add, iterN_succ, ih, iterN_succ]
theorem mod_lin (x a c m : Nat) : (x % m * a + c) % m = (x * a + c) % m := by
  rw [Nat.add_mod, Nat.mul_mod, Nat.mod_mod, ← Nat.mul_mod, ← Nat.add_mod]
def lin (a c m s : Nat) : Nat := (s * a + c) % m
/-- The map behind 2^k steps: x * A + C. -/
theorem iter_pow (a c m u v : Nat) (ha : a = 4 * u + 1) (hc : c = 2 * v + 1) (k : Nat) : ∃ A C u' v', A = 4 * 2 ^ k * u' + 1 ∧ C = 2 ^ k * (2 * v' + 1) ∧ ∀ s, iterN (lin a c m) (2 ^ k) s = (s * A + C) % m := by
  induction k with
  | zero => exact ⟨a, c, u, v, by simp [ha], by simp [hc], fun s => rfl⟩
  | succ k ih =>
    obtain ⟨A, C, u', v', hA, hC, h⟩ := ih
    refine ⟨A * A, C * A + C, 2 * 2 ^ k * u' * u' + u', 2 * v' * (2 ^ k * u') + v' + 2 ^ k * u', ?_, ?_, fun s => ?_⟩
    · rw [hA, Nat.pow_succ]
      generalize 2 ^ k = P
      simp only [Nat.mul_add, Nat.add_mul, Nat.mul_one, Nat.one_mul]
      generalize hq : P * u' = q
      have e0 : 4 * P * u' = 4 * q := by rw [← hq, Nat.mul_assoc]
      have e1 : 4 * (P * 2) * (2 * P * u' * u') = 16 * (q * q) := by
        rw [← hq]
        simp only [Nat.mul_assoc, Nat.mul_left_comm, Nat.mul_comm]
        try omega
      have e2 : 4 * (P * 2) * u' = 8 * q := by rw [← hq, show 4 * (P * 2) = 8 * P by omega, Nat.mul_assoc]
      have e3 : 4 * q * (4 * q) = 16 * (q * q) := by
        simp only [Nat.mul_assoc, Nat.mul_left_comm, Nat.mul_comm]
        try omega
      rw [e0, e1, e2, e3]
      omega
    · rw [hC, hA, Nat.pow_succ]
      generalize 2 ^ k = P
      generalize hq : P * u' = q
      have e0 : 4 * P * u' = 4 * q := by rw [← hq, Nat.mul_assoc]
      rw [e0, ← Nat.mul_succ, Nat.mul_assoc, Nat.mul_assoc]
      congr 1
      simp only [Nat.mul_add, Nat.add_mul, Nat.mul_one, Nat.one_mul, Nat.succ_eq_add_one]
      have e1 : 2 * v' * (4 * q) = 2 * (2 * (2 * v' * q)) := by
        simp only [Nat.mul_assoc, Nat.mul_left_comm, Nat.mul_comm]
        try omega
      omega
    · rw [Nat.pow_succ, Nat.mul_two, iterN_add, h, h, mod_lin]
      congr 1
      rw [Nat.add_mul, Nat.mul_assoc, Nat.add_assoc]
/-- The seed behind one number, where the code is at its end. -/
abbrev lcg : Nat → Nat := lin 6364136223846793005 1442695040888963407 18446744073709551616
/-- The byte that the source gives. -/
def byteOf (s : Nat) : Nat := s / 1099511627776 % 256
theorem flipG_at (s q : Nat) : byteOf ((1099511627776 * (2 * q + 1) + s) % 18446744073709551616) % 2 = (byteOf s + 1) % 2 := by
  unfold byteOf
  omega
theorem flip_arr (P s u v : Nat) : s * (4 * P * u + 1) + P * (2 * v + 1) = P * (2 * (2 * (s * u) + v) + 1) + s := by
  have e3 : s * (4 * P * u + 1) = P * (4 * (s * u)) + s := by
    rw [Nat.mul_add, Nat.mul_one]
    congr 1
    simp only [Nat.mul_assoc, Nat.mul_left_comm, Nat.mul_comm]
  have e4 : P * (2 * (2 * (s * u) + v) + 1) = P * (4 * (s * u)) + P * (2 * v + 1) := by
    rw [← Nat.mul_add]
    congr 1
    omega
  rw [e3, e4]
  omega
theorem pow_40 : (2 : Nat) ^ 40 = 1099511627776 := by decide
theorem byte_flip (s : Nat) : byteOf (iterN lcg (2 ^ 40) s) % 2 = (byteOf s + 1) % 2 := by
  obtain ⟨A, C, u, v, hA, hC, h⟩ := iter_pow 6364136223846793005 1442695040888963407 18446744073709551616 1591034055961698251 721347520444481703 (by decide) (by decide) 40
  rw [h s, hA, hC, flip_arr, pow_40]
  exact flipG_at s _
/-- The source leaves the bytes that stand for the fifth of fourteen. -/
theorem leaves (s : Nat) : ∃ n : Nat, n ≤ 2 ^ 40 ∧ byteOf (iterN lcg n s) % 14 ≠ 5 := by
  by_cases h : byteOf s % 14 = 5
  · refine ⟨2 ^ 40, Nat.le_refl _, fun h2 => ?_⟩
    have h3 := byte_flip s
    generalize byteOf (iterN lcg (2 ^ 40) s) = x at h2 h3
    omega
  · exact ⟨0, Nat.zero_le _, h⟩

end Go.Proofs.YthjamohaeahipaaGreat

/- Calls of functions that change nothing, in regions that draw. -/
namespace Go.Proofs.YthjamohaeahipaaGreat
open Go.RowKit

theorem quietS {P : Program} {f : FuncId} {args : Array Value} {w : World} {n : Nat} {v : Value}
    (h : Calls P f args (w.drewN n) fun e w' => e = .returned v ∧ w.drewN n = w') : Calls P f args (w.drewN n) fun e w'' => e = .returned v ∧ ∃ m, w'' = w.drewN m :=
  h.mono fun _ _ ⟨he, hm⟩ => ⟨he, n, hm.symm⟩

end Go.Proofs.YthjamohaeahipaaGreat

/- Rows of stitches and stacks: the plain functions. -/
namespace Go.Proofs.YthjamohaeahipaaGreat
open Go.RowKit

def takenN (k : Int) : Nat := ([1, 1, 0, 2, 2, 1, 1, 2, 2, 4, 4] : List Nat)[(k - 1).toNat]?.getD 0
def madeN (k : Int) : Nat := ([1, 1, 1, 1, 1, 1, 1, 2, 2, 4, 4] : List Nat)[(k - 1).toNat]?.getD 0
def takenB (k : Int) : Int := if isStitchB k then takenN k else -1
def madeB (k : Int) : Int := if isStitchB k then madeN k else -1
def takenS : List Int → Nat
  | [] => 0
  | k :: ks => takenN k + takenS ks
def madeS : List Int → Nat
  | [] => 0
  | k :: ks => madeN k + madeS ks
def takenP (ks : List Int) : Int := if stitchesB ks then takenS ks else -1
def madeP (ks : List Int) : Int := if stitchesB ks then madeS ks else -1
def st0 (st : List Int) : Int := st[0]?.getD 0
def st1 (st : List Int) : Int := st[1]?.getD 0
def stepMade (k : Int) (st : List Int) : List Int := if k = 6 then [wrap64 (st0 st + 1)] else if k = 7 then [st0 st] else List.replicate (madeN k) 1
def stepOk (k : Int) (st : List Int) : Bool := if k = 6 then decide (st0 st < 4) else if k = 4 ∨ k = 5 then decide (st0 st + st1 st ≤ 4) else true
def stepThick (k : Int) (st : List Int) : Bool := decide (k = 4 ∨ k = 5) && decide (4 < st0 st + st1 st)
def afterP : List Int → List Int → List Int
  | [], _ => []
  | k :: ks, st => stepMade k st ++ afterP ks (st.drop (takenN k))
def okAfter : List Int → List Int → Bool
  | [], _ => true
  | k :: ks, st => stepOk k st && okAfter ks (st.drop (takenN k))
def thickP : List Int → List Int → Bool
  | [], _ => false
  | k :: ks, st => stepThick k st || thickP ks (st.drop (takenN k))
def stacksAfterP (st ks : List Int) : List Int × Int :=
  if stacksB st && stitchesB ks then (if takenS ks = st.length then (if okAfter ks st && decide ((afterP ks st).length ≤ 8) then (afterP ks st, 0) else ([], 5)) else ([], 10)) else ([], 1)

theorem takenS_append (a b : List Int) : takenS (a ++ b) = takenS a + takenS b := by
  induction a with
  | nil => simp [takenS]
  | cons x r ih => simp [takenS, ih]; omega
theorem madeS_append (a b : List Int) : madeS (a ++ b) = madeS a + madeS b := by
  induction a with
  | nil => simp [madeS]
  | cons x r ih => simp [madeS, ih]; omega
theorem takenS_snoc {ks : List Int} {i : Nat} {k : Int} (h : ks[i]? = some k) : takenS (ks.take (i + 1)) = takenS (ks.take i) + takenN k := by
  rw [take_snoc h, takenS_append]; simp [takenS]
theorem madeS_snoc {ks : List Int} {i : Nat} {k : Int} (h : ks[i]? = some k) : madeS (ks.take (i + 1)) = madeS (ks.take i) + madeN k := by
  rw [take_snoc h, madeS_append]; simp [madeS]
theorem takenS_take_le (ks : List Int) (i : Nat) : takenS (ks.take i) ≤ takenS ks := by
  have := takenS_append (ks.take i) (ks.drop i)
  rw [List.take_append_drop] at this
  omega
theorem takenS_at {ks : List Int} {i : Nat} {k : Int} (h : ks[i]? = some k) : takenS (ks.take i) + takenN k ≤ takenS ks := by
  rw [← takenS_snoc h]; exact takenS_take_le _ _
theorem stitch_cases {k : Int} (h : isStitchB k = true) : k = 1 ∨ k = 2 ∨ k = 3 ∨ k = 4 ∨ k = 5 ∨ k = 6 ∨ k = 7 ∨ k = 8 ∨ k = 9 ∨ k = 10 ∨ k = 11 := by
  obtain ⟨h1, h2⟩ := inR_iff.1 h
  omega
theorem takenN_le (k : Int) (h : isStitchB k = true) : takenN k ≤ 4 ∧ madeN k ≤ 4 ∧ 1 ≤ madeN k := by
  rcases stitch_cases h with rfl | rfl | rfl | rfl | rfl | rfl | rfl | rfl | rfl | rfl | rfl <;> decide
theorem stitchesB_of {ks : List Int} (h : stitchesB ks = true) : ks.length ≤ 16 ∧ ∀ k ∈ ks, isStitchB k = true := by
  unfold stitchesB at h
  simp only [Bool.and_eq_true, List.all_eq_true, decide_eq_true_eq] at h
  exact ⟨h.2, h.1⟩
theorem sums_le {ks : List Int} (h : ∀ k ∈ ks, isStitchB k = true) : takenS ks ≤ 4 * ks.length ∧ madeS ks ≤ 4 * ks.length := by
  induction ks with
  | nil => simp [takenS, madeS]
  | cons k ks ih =>
    have h1 := takenN_le k (h k (by simp))
    have h2 := ih fun x hx => h x (by simp [hx])
    simp [takenS, madeS]
    omega
theorem afterP_length_le {ks : List Int} (h : ∀ k ∈ ks, isStitchB k = true) (st : List Int) : (afterP ks st).length ≤ 4 * ks.length := by
  induction ks generalizing st with
  | nil => simp [afterP]
  | cons k ks ih =>
    have h1 := takenN_le k (h k (by simp))
    have h2 := ih (fun x hx => h x (by simp [hx])) (st.drop (takenN k))
    have h3 : (stepMade k st).length ≤ 4 := by
      unfold stepMade
      split
      · simp
      · split
        · simp
        · simp; omega
    simp [afterP]
    omega
theorem decide_lt_le (a b : Int) : decide (a < b) = !decide (b ≤ a) := by
  apply Bool.eq_iff_iff.2; simp
theorem stacks_after {ks : List Int} (h : ∀ k ∈ ks, isStitchB k = true) (st : List Int) (hs : ∀ x ∈ st, inR x 1 4 = true) (hl : takenS ks ≤ st.length) :
    ((afterP ks st).all (inR · 1 4) && !thickP ks st) = okAfter ks st := by
  induction ks generalizing st with
  | nil => rfl
  | cons k ks ih =>
    simp only [takenS] at hl
    have ih' := ih (fun x hx => h x (by simp [hx])) (st.drop (takenN k)) (fun x hx => hs x (List.mem_of_mem_drop hx)) (by rw [List.length_drop]; omega)
    have hk := h k (by simp)
    have key : ((stepMade k st).all (inR · 1 4) && !stepThick k st) = stepOk k st := by
      have at0 : 1 ≤ takenN k → 1 ≤ st0 st ∧ st0 st ≤ 4 := by
        intro h1
        have : 0 < st.length := by omega
        have e : st[0]? = some st[0] := List.getElem?_eq_getElem this
        have := inR_iff.1 (hs _ (List.mem_of_getElem? e))
        unfold st0
        rw [e]
        exact this
      rcases stitch_cases hk with rfl | rfl | rfl | rfl | rfl | rfl | rfl | rfl | rfl | rfl | rfl
      case inr.inr.inr.inr.inr.inl =>
        obtain ⟨h1, h2⟩ := at0 (by decide)
        have hw : wrap64 (st0 st + 1) = st0 st + 1 := IntWalk.wrap64_in _ ⟨by omega, by omega⟩
        simp [stepMade, stepThick, stepOk, hw, inR]
        apply Bool.eq_iff_iff.2
        simp
        omega
      case inr.inr.inr.inr.inr.inr.inl =>
        obtain ⟨h1, h2⟩ := at0 (by decide)
        simp [stepMade, stepThick, stepOk, inR, h1, h2]
      case inr.inr.inr.inl =>
        simp [stepMade, stepThick, stepOk, inR, madeN]
        exact decide_lt_le _ _
      case inr.inr.inr.inr.inl =>
        simp [stepMade, stepThick, stepOk, inR, madeN]
        exact decide_lt_le _ _
      all_goals simp [stepMade, stepThick, stepOk, inR, madeN]
    rw [afterP, okAfter, thickP, List.all_append, ← ih', ← key]
    cases (stepMade k st).all (inR · 1 4) <;> cases stepThick k st <;> cases (afterP ks (st.drop (takenN k))).all (inR · 1 4) <;> cases thickP ks (st.drop (takenN k)) <;> rfl
theorem stacksB_of {st : List Int} (h : stacksB st = true) : st.length ≤ 8 ∧ ∀ x ∈ st, inR x 1 4 = true := by
  unfold stacksB at h
  simp only [Bool.and_eq_true, List.all_eq_true, decide_eq_true_eq] at h
  exact ⟨h.2, h.1⟩
theorem stacksAfterP_spec {st ks : List Int} (h1 : stacksB st = true) (h2 : stitchesB ks = true) (h3 : takenS ks = st.length) :
    stacksAfterP st ks = if stacksB (afterP ks st) && !thickP ks st then (afterP ks st, 0) else ([], 5) := by
  have h := stacks_after (stitchesB_of h2).2 st (stacksB_of h1).2 (by omega)
  unfold stacksAfterP
  rw [h1, h2]
  simp only [Bool.and_true, if_true, h3]
  rw [← h]
  have : (stacksB (afterP ks st) && !thickP ks st) = (((afterP ks st).all (inR · 1 4) && !thickP ks st) && decide ((afterP ks st).length ≤ 8)) := by
    unfold stacksB
    cases (afterP ks st).all (inR · 1 4) <;> cases thickP ks st <;> simp
  rw [this]
theorem stacksAfterP_length (st ks : List Int) : (stacksAfterP st ks).1.length ≤ 8 := by
  unfold stacksAfterP
  split
  · split
    · split
      · rename_i h
        simp only [Bool.and_eq_true, decide_eq_true_eq] at h
        exact h.2
      · simp
    · simp
  · simp
theorem takenB_of {k : Int} (h : isStitchB k = true) : takenB k = takenN k := by rw [takenB, if_pos h]
theorem madeB_of {k : Int} (h : isStitchB k = true) : madeB k = madeN k := by rw [madeB, if_pos h]
/-- The letters of a stitch on columns from c on. -/
def stLetters (k c : Int) : List Int :=
  if k = 8 then [c + 1] else if k = 9 ∨ k = 5 then [-c - 1] else if k = 10 then [c + 2, c + 1, c + 3, c + 2] else if k = 11 then [-c - 2, -c - 1, -c - 3, -c - 2] else []
def lettersFrom : List Int → Int → List Int
  | [], _ => []
  | k :: ks, c => stLetters k c ++ lettersFrom ks (c + takenN k)
def laidB (ks : List Int) : Bool := inR (takenP ks) 1 8 && inR (madeP ks) 1 8
def rowCodeP (d r : Int) (ks : List Int) : Int := if rowB d r ks then (if laidB ks then 0 else 10) else 1
def rowLettersP (d r : Int) (ks : List Int) : List Int := if rowCodeP d r ks = 0 then lettersFrom ks 0 else []
theorem stLetters_length (k c : Int) : (stLetters k c).length ≤ 4 := by
  unfold stLetters
  split <;> (try split) <;> (try split) <;> (try split) <;> simp
theorem lettersFrom_length (ks : List Int) (c : Int) : (lettersFrom ks c).length ≤ 4 * ks.length := by
  induction ks generalizing c with
  | nil => simp [lettersFrom]
  | cons k ks ih =>
    have := ih (c + takenN k)
    have := stLetters_length k c
    simp [lettersFrom]
    omega
theorem rowLettersP_length (d r : Int) (ks : List Int) : (rowLettersP d r ks).length ≤ 64 := by
  unfold rowLettersP
  split
  · rename_i h
    have hs : stitchesB ks = true := by
      by_cases e : rowB d r ks = true
      · unfold rowB at e; simp only [Bool.and_eq_true] at e; exact e.2
      · rw [rowCodeP, if_neg e] at h; simp at h
    have := (stitchesB_of hs).1
    have := lettersFrom_length ks 0
    omega
  · simp

end Go.Proofs.YthjamohaeahipaaGreat
