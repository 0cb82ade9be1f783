/- Letters of braids: the plain functions; a slice of slices whose last one grows. -/
import Derived.Test.YtfgbhhkmdeljoaaS2
import Derived.Test.YtfgbhhkmdeljoaaAp
namespace Go.Proofs.Ytfgbhhkmdeljoaa
open Go.RowKit

def absI (x : Int) : Int := if x < 0 then -x else x
def letterB (n x : Int) : Bool := decide (x ≠ 0) && inR x (1 - n) (n - 1)
def lettersB (n : Int) (xs : List Int) : Bool := xs.all (letterB n)
def braidB (n : Int) (xs : List Int) : Bool := inR n 0 12 && decide (xs.length ≤ 40) && lettersB n xs
def touchB (a b : Int) : Bool := inR (absI a - absI b) (-1) 1
def touchAny (xs : List Int) (x : Int) : Bool := xs.any fun y => touchB y x
/-- All groups but the last, and the last. -/
def packStep (s : List (List Int) × List Int) (x : Int) : List (List Int) × List Int := if touchAny s.2 x then (s.1 ++ [s.2], [x]) else (s.1, s.2 ++ [x])
def packFrom (s : List (List Int) × List Int) (xs : List Int) : List (List Int) × List Int := xs.foldl packStep s
def pack : List Int → List (List Int)
  | [] => []
  | x :: xs => (packFrom ([], [x]) xs).1 ++ [(packFrom ([], [x]) xs).2]
def packP (n : Int) (xs : List Int) : List (List Int) := if braidB n xs then pack xs else []

def packS : List Int → Option (List (List Int) × List Int)
  | [] => none
  | x :: xs => some (packFrom ([], [x]) xs)
theorem touchB_comm (a b : Int) : touchB a b = touchB b a := by
  unfold touchB inR
  apply Bool.eq_iff_iff.2
  simp only [Bool.and_eq_true, decide_eq_true_eq]
  omega
theorem packFrom_snoc (s : List (List Int) × List Int) (xs : List Int) (x : Int) : packFrom s (xs ++ [x]) = packStep (packFrom s xs) x := by simp [packFrom]
theorem packS_none {xs : List Int} {x : Int} (h : packS xs = none) : packS (xs ++ [x]) = some ([], [x]) := by
  cases xs with
  | nil => rfl
  | cons y ys => cases h
theorem packS_some {xs : List Int} {x : Int} {s : List (List Int) × List Int} (h : packS xs = some s) : packS (xs ++ [x]) = some (packStep s x) := by
  cases xs with
  | nil => cases h
  | cons y ys =>
    injection h with h
    rw [List.cons_append, packS, packFrom_snoc, h]
theorem pack_of_none {xs : List Int} (h : packS xs = none) : pack xs = [] := by
  cases xs with
  | nil => rfl
  | cons y ys => cases h
theorem pack_of_some {xs : List Int} {a : List (List Int)} {l : List Int} (h : packS xs = some (a, l)) : pack xs = a ++ [l] := by
  cases xs with
  | nil => cases h
  | cons y ys =>
    injection h with h
    rw [pack, h]
theorem packFrom_cnt (s : List (List Int) × List Int) (xs : List Int) : cntII (packFrom s xs).1 + (packFrom s xs).2.length = cntII s.1 + s.2.length + xs.length := by
  induction xs generalizing s with
  | nil => rfl
  | cons x xs ih =>
    have h := ih (packStep s x)
    have e : packFrom s (x :: xs) = packFrom (packStep s x) xs := rfl
    rw [e, h]
    unfold packStep
    split
    · simp [cntII_append, cntII]; omega
    · simp; omega
theorem packFrom_len (s : List (List Int) × List Int) (xs : List Int) : (packFrom s xs).1.length ≤ s.1.length + xs.length := by
  induction xs generalizing s with
  | nil => simp [packFrom]
  | cons x xs ih =>
    have h := ih (packStep s x)
    have e : packFrom s (x :: xs) = packFrom (packStep s x) xs := rfl
    rw [e]
    have : (packStep s x).1.length ≤ s.1.length + 1 := by unfold packStep; split <;> simp
    simp only [List.length_cons]
    omega
theorem packS_len {xs : List Int} {a : List (List Int)} {l : List Int} (h : packS xs = some (a, l)) : a.length ≤ xs.length ∧ l.length ≤ xs.length := by
  cases xs with
  | nil => cases h
  | cons y ys =>
    injection h with h
    have h1 := packFrom_len ([], [y]) ys
    have h2 := packFrom_cnt ([], [y]) ys
    rw [h] at h1 h2
    simp [cntII] at h1 h2
    simp
    omega
theorem packFrom_mem {P : Int → Prop} (s : List (List Int) × List Int) (xs : List Int) (h : ∀ y ∈ s.2, P y) (hx : ∀ x ∈ xs, P x) : ∀ y ∈ (packFrom s xs).2, P y := by
  induction xs generalizing s with
  | nil => exact h
  | cons x xs ih =>
    have e : packFrom s (x :: xs) = packFrom (packStep s x) xs := rfl
    rw [e]
    refine ih _ ?_ fun y hy => hx y (by simp [hy])
    unfold packStep
    split
    · intro y hy
      simp at hy
      subst hy
      exact hx y (by simp)
    · intro y hy
      rcases List.mem_append.1 hy with hy | hy
      · exact h y hy
      · simp at hy
        subst hy
        exact hx y (by simp)
theorem packS_mem {P : Int → Prop} {xs : List Int} {a : List (List Int)} {l : List Int} (h : packS xs = some (a, l)) (hx : ∀ x ∈ xs, P x) : ∀ y ∈ l, P y := by
  cases xs with
  | nil => cases h
  | cons y ys =>
    injection h with h
    have := packFrom_mem (P := P) ([], [y]) ys (by simpa using hx y (by simp)) fun z hz => hx z (by simp [hz])
    rwa [h] at this
theorem pack_size (xs : List Int) : (pack xs).length ≤ xs.length ∧ cntII (pack xs) = xs.length := by
  cases xs with
  | nil => simp [pack, cntII]
  | cons x xs =>
    have h1 := packFrom_len ([], [x]) xs
    have h2 := packFrom_cnt ([], [x]) xs
    simp [cntII] at h1 h2
    simp [pack, cntII_append, cntII]
    omega
theorem braidB_of {n : Int} {xs : List Int} (h : braidB n xs = true) : 0 ≤ n ∧ n ≤ 12 ∧ xs.length ≤ 40 ∧ ∀ x ∈ xs, x ≠ 0 ∧ 1 - n ≤ x ∧ x ≤ n - 1 := by
  unfold braidB lettersB letterB inR at h
  simp only [Bool.and_eq_true, List.all_eq_true, decide_eq_true_eq] at h
  exact ⟨h.1.1.1, h.1.1.2, h.1.2, fun x hx => by have := h.2 x hx; exact ⟨this.1, this.2.1, this.2.2⟩⟩
theorem packP_size (n : Int) (xs : List Int) : (packP n xs).length ≤ 40 ∧ cntII (packP n xs) ≤ 40 := by
  unfold packP
  split
  · have := braidB_of (by assumption : braidB n xs = true)
    have := pack_size xs
    omega
  · simp [cntII]

/-- One more inner slice, in blocks behind those of the others. -/
theorem CellsII.snoc {w : World} {lo m hi : Nat} {cs : List Value} {xss : List (List Int)} {A' : Option Addr} {c' : Nat} {xs : List Int}
    (h : CellsII w lo m cs xss) (ho : OwnI w m hi A' c' xs) (h1 : lo ≤ m) (h2 : m ≤ hi) : CellsII w lo hi (cs ++ [.slice A' xs.length c']) (xss ++ [xs]) := by
  obtain ⟨ha, hb, hc⟩ := h
  refine ⟨by simp [ha], fun j ys hy => ?_, fun i j v v' g hi' hj hv hv' => ?_⟩
  · rcases Nat.lt_or_ge j xss.length with hj | hj
    · rw [List.getElem?_append_left hj] at hy
      obtain ⟨A2, c2, h5, h6⟩ := hb j ys hy
      exact ⟨A2, c2, by rw [List.getElem?_append_left (by omega)]; exact h5, h6.mono (Nat.le_refl _) h2⟩
    · have hjl := (List.getElem?_eq_some_iff.1 hy).1
      simp at hjl
      have : j = xss.length := by omega
      subst this
      simp at hy
      subst hy
      exact ⟨A', c', by rw [List.getElem?_append_right (by omega)]; simp [ha], ho.mono h1 (Nat.le_refl _)⟩
  · have new : (Value.slice A' xs.length c').ownBlock = some g → m ≤ g := fun e => (ho.own.lt g e).1
    have old : ∀ i v, i < cs.length → (cs ++ [Value.slice A' xs.length c'])[i]? = some v → v.ownBlock = some g → g < m := by
      intro i v hil h7 h8
      rw [List.getElem?_append_left hil] at h7
      obtain ⟨A2, c2, h5, h6⟩ := hb i _ (List.getElem?_eq_getElem (by omega))
      rw [h5] at h7
      injection h7 with h7
      subst h7
      cases A2 with
      | none => simp [Value.ownBlock] at h8
      | some a => simp [Value.ownBlock] at h8; subst h8; exact h6.lt a rfl
    have last : ∀ i v, ¬ i < cs.length → (cs ++ [Value.slice A' xs.length c'])[i]? = some v → i = cs.length ∧ v = .slice A' xs.length c' := by
      intro i v hn h7
      have hil := (List.getElem?_eq_some_iff.1 h7).1
      simp at hil
      have : i = cs.length := by omega
      subst this
      simp at h7
      exact ⟨rfl, h7.symm⟩
    by_cases ei : i < cs.length
    · by_cases ej : j < cs.length
      · rw [List.getElem?_append_left ei] at hi'
        rw [List.getElem?_append_left ej] at hj
        exact hc i j v v' g hi' hj hv hv'
      · obtain ⟨_, rfl⟩ := last j v' ej hj
        have := new hv'
        have := old i v ei hi' hv
        omega
    · by_cases ej : j < cs.length
      · obtain ⟨_, rfl⟩ := last i v ei hi'
        have := new hv
        have := old j v' ej hj hv'
        omega
      · have := last i v ei hi'
        have := last j v' ej hj
        omega

theorem OwnC.keepT {w w' : World} {lo hi : Nat} {e : TypeId} {sz : Nat} {A : Option Addr} {n c : Nat} {cs : List Value} (h : OwnC w lo hi e sz A n c cs) (hk : ∀ k cur, lo ≤ k → k < hi → w.heap[k]? = some (.cells cur e (0, 0)) → w'.heap[k]? = w.heap[k]?) : OwnC w' lo hi e sz A n c cs := by
  refine ⟨⟨h.own.1, ?_⟩, h.lt⟩
  rcases h.own.2 with h2 | ⟨g, cap, cur, h4, h5, h6, h7⟩
  · exact .inl h2
  · injection h4 with h4 hn h11
    subst h4 h11
    exact .inr ⟨g, c, cur, rfl, h5, by rw [hk g cur h5 (h.lt _ rfl) h6]; exact h6, h7⟩
theorem CellsII.keepT {w w' : World} {lo hi : Nat} {cs : List Value} {xss : List (List Int)} (h : CellsII w lo hi cs xss) (hk : ∀ k cur, lo ≤ k → k < hi → w.heap[k]? = some (.cells cur 2 (0, 0)) → w'.heap[k]? = w.heap[k]?) : CellsII w' lo hi cs xss :=
  ⟨h.1, fun k xs hx => by obtain ⟨A', c', h1, h2⟩ := h.2.1 k xs hx; exact ⟨A', c', h1, h2.keepT hk⟩, h.2.2⟩

/-- A slice of slices of the call's own, whose last one (l) lies in blocks behind those of the others. -/
structure OwnL (w : World) (lo hi : Nat) (A : Option Addr) (c : Nat) (xss : List (List Int)) (l : List Int) (A' : Option Addr) (c' m : Nat) (cs : List Value) : Prop where
  out : OwnC w lo hi 33 1 A (xss.length + 1) c (cs ++ [.slice A' l.length c'])
  cells : CellsII w lo m cs xss
  last : OwnI w m hi A' c' l
  lom : lo ≤ m
  mhi : m ≤ hi
section
variable {w w' : World} {lo hi : Nat} {A : Option Addr} {c : Nat} {xss : List (List Int)} {l : List Int} {A' : Option Addr} {c' m : Nat} {cs : List Value}
theorem OwnL.toII (h : OwnL w lo hi A c xss l A' c' m cs) : OwnII w lo hi A (xss ++ [l]).length c (xss ++ [l]) :=
  ⟨cs ++ [.slice A' l.length c'], by simpa using h.out, h.cells.snoc h.last h.lom h.mhi⟩
theorem OwnL.keep (h : OwnL w lo hi A c xss l A' c' m cs) (hk : ∀ k, lo ≤ k → k < hi → k < w.heap.size → w'.heap[k]? = w.heap[k]?) : OwnL w' lo hi A c xss l A' c' m cs :=
  ⟨h.out.keep hk, h.cells.keep fun k h1 h2 h3 => hk k h1 (by have := h.mhi; omega) h3, h.last.keep fun k h1 h2 h3 => hk k (by have := h.lom; omega) h2 h3, h.lom, h.mhi⟩
theorem OwnL.cell (h : OwnL w lo hi A c xss l A' c' m cs) : ∃ g, A = some ⟨g, 0, none⟩ ∧ lo ≤ g ∧ g < hi ∧ w.cell? ⟨g, xss.length, none⟩ = some (.slice A' l.length c') ∧ w.frozen? ⟨g, xss.length, none⟩ = false := by
  have hl : cs.length = xss.length := h.cells.1
  obtain ⟨g, rfl, h1, h2, h3, h4⟩ := h.out.cell (j := xss.length) (by simp [hl])
  exact ⟨g, rfl, h1, h2, by simpa [hl] using h3, h4⟩
/-- The last inner slice is put anew. -/
theorem OwnL.put {g : Nat} {A2 : Option Addr} {c2 : Nat} {l2 : List Int} (h : OwnL w lo hi (some ⟨g, 0, none⟩) c xss l A' c' m cs) (hhi : hi ≤ w.heap.size) (hg : w.grownBy w' (Value.slice A' l.length c').ownBlock) (ho : OwnI w' m w'.heap.size A2 c2 l2) :
    OwnL (w'.setCell ⟨g, xss.length, none⟩ (.slice A2 l2.length c2)) lo (w'.setCell ⟨g, xss.length, none⟩ (.slice A2 l2.length c2)).heap.size (some ⟨g, 0, none⟩) c xss l2 A2 c2 m cs ∧ w'.cell? ⟨g, xss.length, none⟩ = some (.slice A' l.length c') ∧ w'.frozen? ⟨g, xss.length, none⟩ = false := by
  have hl : cs.length = xss.length := h.cells.1
  have hz := hg.size
  have hlast : ∀ q, (Value.slice A' l.length c').ownBlock = some q → m ≤ q := fun q e => (h.last.own.lt q e).1
  have hne : ∀ q, (Value.slice A' l.length c').ownBlock = some q → q ≠ g := by
    intro q e
    rintro rfl
    rcases h.last.form with ⟨rfl, _⟩ | ⟨q', cur, rfl, _, _, h4, _⟩
    · simp [Value.ownBlock] at e
    · simp [Value.ownBlock] at e
      subst e
      rcases h.out.form with ⟨h5, _⟩ | ⟨q2, cur', h5, _, _, h6, _⟩
      · simp at h5
      · injection h5 with h5
        injection h5 with h5
        subst h5
        rw [h4] at h6
        injection h6 with h6
        injection h6 with _ h6
        simp at h6
  have hgl : g < w.heap.size := Nat.lt_of_lt_of_le (h.out.lt _ rfl) hhi
  have o1 : OwnC w' lo w'.heap.size 33 1 (some ⟨g, 0, none⟩) (xss.length + 1) c (cs ++ [.slice A' l.length c']) :=
    (h.out.keep1 fun q hq => by
      injection hq with hq
      injection hq with hq
      subst hq
      exact hg.block _ hgl fun e => hne _ e.symm rfl).mono (Nat.le_refl _) (Nat.le_trans hhi hz)
  have hset : (cs ++ [Value.slice A' l.length c']).set xss.length (.slice A2 l2.length c2) = cs ++ [.slice A2 l2.length c2] := by
    rw [← hl, List.set_append_right _ _ (Nat.le_refl _)]
    simp
  have o2 := (o1.store (j := xss.length) (.slice A2 l2.length c2)).1
  rw [hset] at o2
  have hgt : ∀ k cur, w'.heap[k]? = some (.cells cur 2 (0, 0)) → k ≠ g := by
    intro k cur h4 e
    subst e
    rcases o1.form with ⟨h5, _⟩ | ⟨q2, cur', h5, _, _, h6, _⟩
    · simp at h5
    · injection h5 with h5
      injection h5 with h5
      subst h5
      rw [h4] at h6
      injection h6 with h6
      injection h6 with _ h6
      simp at h6
  obtain ⟨_, hA, _, _, q1, q2⟩ := o1.cell (j := xss.length) (by simp [hl])
  injection hA with hA
  injection hA with hA
  subst hA
  refine ⟨⟨by simpa using o2, ?_, ?_, h.lom, by have := h.mhi; simp; omega⟩, by simpa [hl] using q1, q2⟩
  · refine CellsII.keepT (w := w) h.cells fun k cur h1 h2 h3 => ?_
    have hk3 : k < w.heap.size := (Array.getElem?_eq_some_iff.1 h3).1
    have e1 : w'.heap[k]? = w.heap[k]? := hg.block _ hk3 fun e => by have := hlast _ e.symm; omega
    rw [Below.heap_setCell w' _ _ k (hgt k cur (e1.trans h3)), e1]
  · refine (ho.keepT fun k cur h1 h2 h3 => Below.heap_setCell w' _ _ k (hgt k cur h3)).mono (Nat.le_refl _) (by simp)
/-- One more inner slice is appended; it lies in blocks from hi on. -/
theorem OwnL.next {A2 : Option Addr} {c2 : Nat} {A3 : Option Addr} {c3 : Nat} {l3 : List Int} (h : OwnL w lo hi A c xss l A' c' m cs) (hk : ∀ k cur, lo ≤ k → k < hi → w.heap[k]? = some (.cells cur 2 (0, 0)) → w'.heap[k]? = w.heap[k]?) (hhi : hi ≤ w'.heap.size)
    (ho : OwnC w' lo w'.heap.size 33 1 A2 (xss.length + 1 + 1) c2 ((cs ++ [.slice A' l.length c']) ++ [.slice A3 l3.length c3])) (h3 : OwnI w' hi w'.heap.size A3 c3 l3) :
    OwnL w' lo w'.heap.size A2 c2 (xss ++ [l]) l3 A3 c3 hi (cs ++ [.slice A' l.length c']) :=
  ⟨by simpa using ho, (h.cells.snoc h.last h.lom h.mhi).keepT hk, h3, Nat.le_trans h.lom h.mhi, hhi⟩
/-- The first inner slice. -/
theorem OwnL.one {w : World} {lo hi : Nat} {A : Option Addr} {c : Nat} {l : List Int} {A' : Option Addr} {c' : Nat} (m : Nat) (h : OwnC w lo hi 33 1 A 1 c [.slice A' l.length c']) (h' : OwnI w m hi A' c' l) (h1 : lo ≤ m) (h2 : m ≤ hi) : OwnL w lo hi A c [] l A' c' m [] :=
  ⟨by simpa using h, ⟨rfl, fun k xs hx => by simp at hx, fun i j v v' g hi' => by simp at hi'⟩, h', h1, h2⟩
end

end Go.Proofs.Ytfgbhhkmdeljoaa
