/- Slices of slices of numbers: how they are read and owned, and the helpers of the laws on them. -/
import Derived.Test.YtfgbhhkmdeljoaaM
namespace Go.Proofs.Ytfgbhhkmdeljoaa
open Go.RowKit

def Ints2 (w : World) (A : Option Addr) (xss : List (List Int)) : Prop :=
  ∀ k, k < xss.length → ∃ b off A' c' xs, A = some ⟨b, off, none⟩ ∧ xss[k]? = some xs ∧ w.cell? ⟨b, off + k, none⟩ = some (.slice A' xs.length c') ∧ Ints w A' xs ∧ xs.length ≤ 9223372036854775807
theorem Ints2.of_cells {w w' : World} {A : Option Addr} {xss : List (List Int)} (h : Ints2 w A xss) (hk : ∀ a v, w.cell? a = some v → w'.cell? a = some v) : Ints2 w' A xss :=
  fun k hk' => by
    obtain ⟨b, off, A', c', xs, hA, hx, hc, hi, hl⟩ := h k hk'
    exact ⟨b, off, A', c', xs, hA, hx, hk _ _ hc, hi.of_cells hk, hl⟩
theorem Ints2.below {w w' : World} {A : Option Addr} {xss : List (List Int)} (h : Ints2 w A xss) (hb : Below w.heap.size w w') : Ints2 w' A xss := h.of_cells (cells_below hb)
theorem Ints2.drewN {w : World} {A : Option Addr} {xss : List (List Int)} (h : Ints2 w A xss) (n : Nat) : Ints2 (w.drewN n) A xss := h
theorem Ints2.nil {w : World} {A : Option Addr} : Ints2 w A [] := fun k hk => by simp at hk

def cntII : List (List Int) → Nat
  | [] => 0
  | xs :: r => xs.length + cntII r
def sizeII (xss : List (List Int)) : Nat := xss.length + cntII xss
theorem cntII_append (a b : List (List Int)) : cntII (a ++ b) = cntII a + cntII b := by
  induction a with
  | nil => simp [cntII]
  | cons x r ih => simp [cntII, ih]; omega
theorem cntII_snoc {xss : List (List Int)} {k : Nat} {xs : List Int} (h : xss[k]? = some xs) : cntII (xss.take (k + 1)) = cntII (xss.take k) + xs.length := by
  rw [take_snoc h, cntII_append]; simp [cntII]
theorem cntII_take_le (xss : List (List Int)) (k : Nat) : cntII (xss.take k) ≤ cntII xss := by
  have := cntII_append (xss.take k) (xss.drop k)
  rw [List.take_append_drop] at this
  omega
theorem cntII_at {xss : List (List Int)} {k : Nat} {xs : List Int} (h : xss[k]? = some xs) : cntII (xss.take k) + xs.length ≤ cntII xss := by
  rw [← cntII_snoc h]; exact cntII_take_le _ _

/-- A slice of slices that is the call's own: the inner ones lie in blocks of their own, each in another. -/
def CellsII (w : World) (lo hi : Nat) (cs : List Value) (xss : List (List Int)) : Prop :=
  cs.length = xss.length ∧ (∀ (k : Nat) (xs : List Int), xss[k]? = some xs → ∃ (A' : Option Addr) (c' : Nat), cs[k]? = some (Value.slice A' xs.length c') ∧ OwnI w lo hi A' c' xs) ∧
  ∀ (i j : Nat) (v v' : Value) (g : Nat), cs[i]? = some v → cs[j]? = some v' → v.ownBlock = some g → v'.ownBlock = some g → i = j

theorem CellsII.keep {w w' : World} {lo hi : Nat} {cs : List Value} {xss : List (List Int)} (h : CellsII w lo hi cs xss) (hk : ∀ k, lo ≤ k → k < hi → k < w.heap.size → w'.heap[k]? = w.heap[k]?) : CellsII w' lo hi cs xss :=
  ⟨h.1, fun k xs hx => by obtain ⟨A', c', h1, h2⟩ := h.2.1 k xs hx; exact ⟨A', c', h1, h2.keep hk⟩, h.2.2⟩
theorem CellsII.mono {w : World} {lo hi lo' hi' : Nat} {cs : List Value} {xss : List (List Int)} (h : CellsII w lo hi cs xss) (h1 : lo' ≤ lo) (h2 : hi ≤ hi') : CellsII w lo' hi' cs xss :=
  ⟨h.1, fun k xs hx => by obtain ⟨A', c', h3, h4⟩ := h.2.1 k xs hx; exact ⟨A', c', h3, h4.mono h1 h2⟩, h.2.2⟩

structure OwnII (w : World) (lo hi : Nat) (A : Option Addr) (n c : Nat) (xss : List (List Int)) : Prop where
  ex : ∃ cs, OwnC w lo hi 33 1 A n c cs ∧ CellsII w lo hi cs xss
section
variable {w w' : World} {lo hi n : Nat} {A : Option Addr} {c : Nat} {xss : List (List Int)}
theorem OwnII.keep (h : OwnII w lo hi A n c xss) (hk : ∀ k, lo ≤ k → k < hi → k < w.heap.size → w'.heap[k]? = w.heap[k]?) : OwnII w' lo hi A n c xss := by
  obtain ⟨cs, h1, h2⟩ := h.ex
  exact ⟨cs, h1.keep hk, h2.keep hk⟩
theorem OwnII.below {B : Nat} (h : OwnII w lo hi A n c xss) (hb : Below B w w') (hB : hi ≤ B) : OwnII w' lo hi A n c xss := h.keep fun k _ h2 _ => hb.block k (by omega)
theorem OwnII.upd {l2 h2 : Nat} (h : OwnII w lo hi A n c xss) (hb : Upd l2 h2 w w') (hB : hi ≤ l2 ∨ h2 ≤ lo) : OwnII w' lo hi A n c xss := h.keep fun k h3 h4 h5 => hb.block k h5 (by omega)
theorem OwnII.mono {lo' hi' : Nat} (h : OwnII w lo hi A n c xss) (h1 : lo' ≤ lo) (h2 : hi ≤ hi') : OwnII w lo' hi' A n c xss := by
  obtain ⟨cs, h3, h4⟩ := h.ex
  exact ⟨cs, h3.mono h1 h2, h4.mono h1 h2⟩
theorem OwnII.alloc (h : OwnII w lo hi A n c xss) (o : Obj) : OwnII (w.alloc o) lo hi A n c xss := h.keep fun k _ _ h4 => Below.heap_alloc w o k h4
theorem OwnII.far (h : OwnII w lo hi A n c xss) {p : Addr} (hp : p.block < lo ∨ hi ≤ p.block) (u : Value) : OwnII (w.setCell p u) lo hi A n c xss :=
  h.keep fun k h2 h3 _ => Below.heap_setCell w p u k (by omega)
theorem OwnII.len (h : OwnII w lo hi A n c xss) : xss.length = n := by
  obtain ⟨cs, h1, h2⟩ := h.ex
  have := h1.len
  rw [← h2.1]; omega
theorem OwnC.maxc {sz : Nat} {e : TypeId} {cs : List Value} (h : OwnC w lo hi e sz A n c cs) : n ≤ 9223372036854775807 := by
  rcases h.form with ⟨_, rfl, rfl, _⟩ | ⟨_, _, _, _, _, _, h, h', _⟩
  · omega
  · unfold maxLen at h'; omega
theorem OwnII.ints2 (h : OwnII w lo hi A n c xss) : Ints2 w A xss := by
  obtain ⟨cs, h1, h2, h3, _⟩ := h.ex
  intro k hk
  obtain ⟨g, rfl, _, _, hc, _⟩ := h1.cell (j := k) (by omega)
  have hx : xss[k]? = some xss[k] := List.getElem?_eq_getElem hk
  obtain ⟨A', c', h4, h5⟩ := h3 k _ hx
  rw [List.getElem?_eq_getElem (by omega)] at h4
  injection h4 with h4
  rw [h4] at hc
  exact ⟨g, 0, A', c', xss[k], rfl, hx, by simpa using hc, h5.ints, h5.maxc⟩
theorem OwnII.cap (h : OwnII w lo hi A n c xss) : n ≤ c := by obtain ⟨_, h1, _⟩ := h.ex; exact h1.cap
end
theorem info_ints : (Try.prog.info? 33).map (fun i => (i.zero, i.size, i.bytes)) = some (some (.slice none 0 0), 1, 24) := by kernel_rfl

theorem CellsII.nils {w : World} {lo hi n : Nat} : CellsII w lo hi (List.replicate n (.slice none 0 0)) (List.replicate n []) := by
  refine ⟨by simp, fun k xs hx => ?_, fun i j v v' g hi' hj hv hv' => ?_⟩
  · by_cases hk : k < n
    · simp [hk] at hx
      subst hx
      exact ⟨none, 0, by simp [hk], OwnC.nil _ _ _ _ _⟩
    · simp [hk] at hx
  · by_cases hk : i < n
    · simp [hk] at hi'
      subst hi'
      simp [Value.ownBlock] at hv
    · simp [hk] at hi'

/-- One inner slice is put in place of another; it lies in blocks from hi on. -/
theorem CellsII.set {w : World} {lo hi l2 h2 : Nat} {cs : List Value} {xss : List (List Int)} {k : Nat} {A' : Option Addr} {c' : Nat} {xs : List Int}
    (h : CellsII w lo hi cs xss) (ho : OwnI w l2 h2 A' c' xs) (h1 : hi ≤ l2) (h3 : hi ≤ h2) (h4 : lo ≤ l2) (hk : k < xss.length) : CellsII w lo h2 (cs.set k (.slice A' xs.length c')) (xss.set k xs) := by
  obtain ⟨ha, hb, hc⟩ := h
  refine ⟨by simpa using ha, fun j ys hy => ?_, fun i j v v' g hi' hj hv hv' => ?_⟩
  · by_cases e : k = j
    · subst e
      rw [List.getElem?_set_self hk] at hy
      injection hy with hy
      subst hy
      exact ⟨A', c', by rw [List.getElem?_set_self (by omega)], ho.mono h4 (Nat.le_refl _)⟩
    · rw [List.getElem?_set_ne e] at hy
      obtain ⟨A2, c2, h5, h6⟩ := hb j ys hy
      exact ⟨A2, c2, by rw [List.getElem?_set_ne e]; exact h5, h6.mono (Nat.le_refl _) h3⟩
  · have new : (Value.slice A' xs.length c').ownBlock = some g → hi ≤ g := by
      intro e
      have := ho.own.lt g e
      omega
    have old : ∀ i v, k ≠ i → (cs.set k (.slice A' xs.length c'))[i]? = some v → v.ownBlock = some g → g < hi := by
      intro i v hne h7 h8
      rw [List.getElem?_set_ne hne] at h7
      have hil : i < xss.length := by rw [← ha]; exact (List.getElem?_eq_some_iff.1 h7).1
      obtain ⟨A2, c2, h5, h6⟩ := hb i _ (List.getElem?_eq_getElem hil)
      rw [h5] at h7
      injection h7 with h7
      subst h7
      cases A2 with
      | none => simp [Value.ownBlock] at h8
      | some a => simp [Value.ownBlock] at h8; subst h8; exact h6.lt a rfl
    by_cases ei : k = i
    · by_cases ej : k = j
      · omega
      · subst ei
        rw [List.getElem?_set_self (by omega)] at hi'
        injection hi' with hi'
        subst hi'
        have := new hv
        have := old j v' ej hj hv'
        omega
    · by_cases ej : k = j
      · subst ej
        rw [List.getElem?_set_self (by omega)] at hj
        injection hj with hj
        subst hj
        have := new hv'
        have := old i v ei hi' hv
        omega
      · rw [List.getElem?_set_ne ei] at hi'
        rw [List.getElem?_set_ne ej] at hj
        exact hc i j v v' g hi' hj hv hv'

theorem OwnC.keep1 {w w' : World} {lo hi : Nat} {e : TypeId} {sz : Nat} {A : Option Addr} {n c : Nat} {cs : List Value} (h : OwnC w lo hi e sz A n c cs) (hk : ∀ g, A = some ⟨g, 0, none⟩ → w'.heap[g]? = w.heap[g]?) : OwnC w' lo hi e sz A n c cs := by
  refine ⟨⟨h.own.1, ?_⟩, h.lt⟩
  rcases h.own.2 with h2 | ⟨g, cap, cur, h4, h5, h6, h7⟩
  · exact .inl h2
  · injection h4 with h4 hn h11
    subst h4 h11
    exact .inr ⟨g, c, cur, rfl, h5, by rw [hk g rfl]; exact h6, h7⟩

/-- One inner slice, by itself: whatever changes in its block alone changes it alone. -/
theorem OwnII.open_ {w : World} {lo hi n : Nat} {A : Option Addr} {c : Nat} {xss : List (List Int)} (h : OwnII w lo hi A n c xss) {k : Nat} {xs : List Int} (hx : xss[k]? = some xs) :
    ∃ g A' c' l h', A = some ⟨g, 0, none⟩ ∧ w.cell? ⟨g, k, none⟩ = some (.slice A' xs.length c') ∧ OwnI w l h' A' c' xs ∧ xs.length ≤ 9223372036854775807 ∧
      ∀ (w' : World) (ys : List Int), ys.length = xs.length → Upd l h' w w' → OwnC w' l h' 2 1 A' xs.length c' (ys.map (Value.int .i64)) → OwnII w' lo hi A n c (xss.set k ys) ∧ Upd lo hi w w' := by
  obtain ⟨cs, ho, ha, hb, hc⟩ := h.ex
  have hk : k < xss.length := (List.getElem?_eq_some_iff.1 hx).1
  obtain ⟨A', c', h1, h2⟩ := hb k xs hx
  obtain ⟨g, rfl, hg1, hg2, hcell, _⟩ := ho.cell (j := k) (by omega)
  have h1' := h1
  rw [List.getElem?_eq_getElem (by omega)] at h1'
  injection h1' with h1'
  rw [h1'] at hcell
  have tight : ∃ l h', OwnI w l h' A' c' xs ∧ (∀ j, l ≤ j → j < h' → A' = some ⟨j, 0, none⟩ ∧ lo ≤ j ∧ j < hi ∧ j ≠ g) := by
    rcases h2.form with ⟨rfl, hn, rfl, _⟩ | ⟨q, cur, rfl, hq1, hq2, hq3, hq4⟩
    · have hxs : xs = [] := List.eq_nil_of_length_eq_zero hn
      subst hxs
      exact ⟨0, 0, OwnC.nil _ _ _ _ _, fun j _ h => by omega⟩
    · refine ⟨q, q + 1, ⟨⟨h2.own.1, .inr ⟨q, c', cur, rfl, Nat.le_refl _, hq3, hq4⟩⟩, fun a e => by injection e with e; subst e; exact Nat.lt_succ_self _⟩, fun j hj1 hj2 => ?_⟩
      obtain rfl : j = q := by omega
      refine ⟨rfl, hq1, hq2, ?_⟩
      rintro rfl
      rcases ho.form with ⟨h, _⟩ | ⟨q', cur', h, _, _, h4, _⟩
      · simp at h
      · injection h with h
        injection h with h
        subst h
        rw [hq3] at h4
        injection h4 with h4
        injection h4 with _ h4
        simp at h4
  obtain ⟨l, h', hl1, hl2⟩ := tight
  refine ⟨g, A', c', l, h', rfl, hcell, hl1, hl1.maxc, fun w' ys hlen hu hn => ⟨⟨cs, ho.keep1 fun q hq => ?_, by simpa using ha, fun j zs hz => ?_, hc⟩, ?_⟩⟩
  · injection hq with hq
    injection hq with hq
    subst hq
    refine hu.block g (cell_lt hcell) ?_
    rcases Nat.lt_or_ge g l with h | h
    · exact .inl h
    · rcases Nat.lt_or_ge g h' with h3 | h3
      · exact absurd rfl (hl2 g h h3).2.2.2
      · exact .inr h3
  · by_cases e : k = j
    · subst e
      rw [List.getElem?_set_self hk] at hz
      injection hz with hz
      subst hz
      refine ⟨A', c', by rw [hlen]; exact h1, ?_⟩
      rw [← hlen] at hn
      refine ⟨⟨hn.own.1, ?_⟩, fun a haa => ?_⟩
      · rcases hn.own.2 with h3 | ⟨q, cap, cur, h3, h4, h5⟩
        · exact .inl h3
        · injection h3 with h3 hn' hcc
          have := hl2 q h4 (by have := hn.lt _ h3; exact this)
          exact .inr ⟨q, cap, cur, by rw [h3, hcc], this.2.1, h5⟩
      · subst haa
        rcases hn.form with ⟨h3, _⟩ | ⟨q, cur, h3, h4, h5, _⟩
        · simp at h3
        · injection h3 with h3
          subst h3
          exact (hl2 q h4 h5).2.2.1
    · rw [List.getElem?_set_ne e] at hz
      obtain ⟨A2, c2, h5, h6⟩ := hb j zs hz
      refine ⟨A2, c2, h5, h6.keep1 fun q hq => ?_⟩
      subst hq
      have hql : q < w.heap.size := by
        rcases h6.form with ⟨h, _⟩ | ⟨q', cur', h, _, _, h4, _⟩
        · simp at h
        · injection h with h
          injection h with h
          subst h
          exact (Array.getElem?_eq_some_iff.1 h4).1
      refine hu.block q hql ?_
      rcases Nat.lt_or_ge q l with h | h
      · exact .inl h
      · rcases Nat.lt_or_ge q h' with h3 | h3
        · have := (hl2 q h h3).1
          subst this
          exact absurd (hc k j _ _ q h1 h5 rfl rfl) e
        · exact .inr h3
  · exact ⟨hu.os, hu.tape, hu.output, hu.size, fun q hq hj => hu.block q hq (by
      rcases Nat.lt_or_ge q l with h | h
      · exact .inl h
      · rcases Nat.lt_or_ge q h' with h3 | h3
        · have := hl2 q h h3; omega
        · exact .inr h3)⟩

end Go.Proofs.Ytfgbhhkmdeljoaa
