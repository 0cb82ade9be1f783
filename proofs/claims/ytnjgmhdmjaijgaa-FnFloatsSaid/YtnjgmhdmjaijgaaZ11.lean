/- Steps of the proof, joined from several texts: FA FB. -/
import Derived.Test.YtnjgmhdmjaijgaaZ10
import Derived.Test.YtnjgmhdmjaijgaaZ4
import Derived.Test.YtnjgmhdmjaijgaaZ5

/- FnFloats, plain: what floats are, and rows in which they are caught. -/
namespace Go.Proofs.Ytnjgmhdmjaijgaa
open Go Go.RowKit

/-- Two stitches of a carrier with none of it between them. -/
def Nxt (c : Int) (row : List Int) (p q : Nat) : Prop := p < q ∧ row[p]? = some c ∧ row[q]? = some c ∧ ∀ t, p < t → t < q → row[t]? ≠ some c
theorem fRow_facts (r c : Int) (row : List Int) (k : Nat) (hk : k ≤ row.length) :
    (∀ f, f ∈ (fRow r c row k).1 ↔ ∃ p q : Nat, f = ⟨r, c, p, q⟩ ∧ q < k ∧ p + 1 < q ∧ Nxt c row p q) ∧
    (((fRow r c row k).2 = -1 ∧ ∀ t, t < k → row[t]? ≠ some c) ∨ ∃ p : Nat, (fRow r c row k).2 = p ∧ p < k ∧ row[p]? = some c ∧ ∀ t, p < t → t < k → row[t]? ≠ some c) := by
  induction k with
  | zero =>
    refine ⟨fun f => ⟨fun h => (by simp [fRow] at h), fun ⟨p, q, _, h, _⟩ => absurd h (Nat.not_lt_zero _)⟩, .inl ⟨rfl, fun t ht => absurd ht (Nat.not_lt_zero _)⟩⟩
  | succ k ih =>
    obtain ⟨h1, h2⟩ := ih (by omega)
    have hx : row[k]? = some (row[k]'(by omega)) := List.getElem?_eq_getElem _
    obtain ⟨x, hxx⟩ : ∃ x, x = row[k]'(by omega) := ⟨_, rfl⟩
    rw [← hxx] at hx
    rw [fRow_succ hx]
    unfold fStep
    by_cases hc : x = c
    · subst hc
      rw [if_pos rfl]
      refine ⟨fun f => ?_, .inr ⟨k, rfl, by omega, hx, fun t h3 h4 => absurd h4 (by omega)⟩⟩
      rcases h2 with ⟨e, hno⟩ | ⟨p0, e, hp0, hpc, hno⟩
      · rw [e, if_neg (by omega)]
        rw [h1]
        constructor
        · rintro ⟨p, q, a, b, d, ee⟩
          exact ⟨p, q, a, by omega, d, ee⟩
        · rintro ⟨p, q, a, b, d, ee⟩
          refine ⟨p, q, a, ?_, d, ee⟩
          by_cases hq : q = k
          · exact absurd ee.2.1 (hno p (by have := ee.1; omega))
          · omega
      · rw [e]
        by_cases hg : p0 + 1 < k
        · rw [if_pos (by omega)]
          simp only
          rw [List.mem_append, h1, List.mem_singleton]
          constructor
          · rintro (⟨p, q, a, b, d, ee⟩ | rfl)
            · exact ⟨p, q, a, by omega, d, ee⟩
            · exact ⟨p0, k, rfl, by omega, hg, hp0, hpc, hx, hno⟩
          · rintro ⟨p, q, a, b, d, ee⟩
            by_cases hq : q = k
            · right
              subst hq
              have : p = p0 := by
                by_cases hpp : p < p0
                · exact absurd hpc (ee.2.2.2 p0 hpp hp0)
                · by_cases hpp2 : p0 < p
                  · exact absurd ee.2.1 (hno p hpp2 ee.1)
                  · omega
              subst this
              exact a
            · left
              exact ⟨p, q, a, by omega, d, ee⟩
        · rw [if_neg (by omega)]
          simp only
          rw [h1]
          constructor
          · rintro ⟨p, q, a, b, d, ee⟩
            exact ⟨p, q, a, by omega, d, ee⟩
          · rintro ⟨p, q, a, b, d, ee⟩
            refine ⟨p, q, a, ?_, d, ee⟩
            by_cases hq : q = k
            · subst hq
              have : p = p0 := by
                by_cases hpp : p < p0
                · exact absurd hpc (ee.2.2.2 p0 hpp hp0)
                · by_cases hpp2 : p0 < p
                  · exact absurd ee.2.1 (hno p hpp2 ee.1)
                  · omega
              omega
            · omega
    · rw [if_neg hc]
      have hxc : row[k]? ≠ some c := by rw [hx]; intro e; injection e with e; exact hc e
      refine ⟨fun f => ?_, ?_⟩
      · rw [h1]
        constructor
        · rintro ⟨p, q, a, b, d, e⟩
          exact ⟨p, q, a, by omega, d, e⟩
        · rintro ⟨p, q, a, b, d, e⟩
          refine ⟨p, q, a, ?_, d, e⟩
          by_cases hq : q = k
          · subst hq; exact absurd e.2.2.1 hxc
          · omega
      · rcases h2 with ⟨e, hno⟩ | ⟨p0, e, hp0, hpc, hno⟩
        · left
          refine ⟨e, fun t ht => ?_⟩
          by_cases htk : t = k
          · subst htk; exact hxc
          · exact hno t (by omega)
        · right
          refine ⟨p0, e, by omega, hpc, fun t h3 h4 => ?_⟩
          by_cases htk : t = k
          · subst htk; exact hxc
          · exact hno t h3 (by omega)
theorem Nxt.lt {c : Int} {row : List Int} {p q : Nat} (h : Nxt c row p q) : q < row.length := (List.getElem?_eq_some_iff.1 h.2.2.1).1
theorem fRow_mem {r c : Int} {row : List Int} {f : FloatD} : f ∈ (fRow r c row row.length).1 ↔ ∃ p q : Nat, f = ⟨r, c, p, q⟩ ∧ p + 1 < q ∧ Nxt c row p q := by
  rw [(fRow_facts r c row row.length (Nat.le_refl _)).1]
  constructor
  · rintro ⟨p, q, a, _, d, e⟩; exact ⟨p, q, a, d, e⟩
  · rintro ⟨p, q, a, d, e⟩; exact ⟨p, q, a, e.lt, d, e⟩
theorem fCar_mem {r : Int} {row : List Int} {f : FloatD} (j : Nat) : f ∈ fCar r row j ↔ ∃ c : Nat, c < j ∧ f ∈ (fRow r ((c : Int) + 1) row row.length).1 := by
  induction j with
  | zero => exact ⟨fun h => by simp [fCar] at h, fun ⟨c, h, _⟩ => absurd h (Nat.not_lt_zero _)⟩
  | succ j ih =>
    rw [fCar, List.mem_append, ih]
    constructor
    · rintro (⟨c, h, k⟩ | h)
      · exact ⟨c, by omega, k⟩
      · exact ⟨j, by omega, h⟩
    · rintro ⟨c, h, k⟩
      by_cases hc : c = j
      · subst hc; exact .inr k
      · exact .inl ⟨c, by omega, k⟩
theorem fAll_mem {xss : List (List Int)} {f : FloatD} (i : Nat) (hi : i ≤ xss.length) : f ∈ fAll xss i ↔ ∃ (j : Nat) (row : List Int) (c p q : Nat), j < i ∧ xss[j]? = some row ∧ c < 4 ∧ f = ⟨j, (c : Int) + 1, p, q⟩ ∧ p + 1 < q ∧ Nxt ((c : Int) + 1) row p q := by
  induction i with
  | zero => exact ⟨fun h => by simp [fAll] at h, fun ⟨_, _, _, _, _, h, _⟩ => absurd h (Nat.not_lt_zero _)⟩
  | succ i ih =>
    have hx : xss[i]? = some (xss[i]'(by omega)) := List.getElem?_eq_getElem _
    rw [fAll_succ hx, List.mem_append, ih (by omega), fCar_mem]
    constructor
    · rintro (⟨j, row, c, p, q, h1, h2⟩ | ⟨c, h, k⟩)
      · exact ⟨j, row, c, p, q, by omega, h2⟩
      · obtain ⟨p, q, e1, e2, e3⟩ := fRow_mem.1 k
        exact ⟨i, _, c, p, q, by omega, hx, h, e1, e2, e3⟩
    · rintro ⟨j, row, c, p, q, h1, h2, h3, h4, h5, h6⟩
      by_cases hj : j = i
      · subst hj
        rw [hx] at h2
        injection h2 with h2
        subst h2
        exact .inr ⟨c, h3, fRow_mem.2 ⟨p, q, h4, h5, h6⟩⟩
      · exact .inl ⟨j, row, c, p, q, by omega, h2, h3, h4, h5, h6⟩
/-- What the law asks of each float. -/
theorem float_ok {n : Int} {xss : List (List Int)} (h : coloursB n xss = true) {f : FloatD} (hf : f ∈ fAll xss xss.length) :
    ∃ (j p q : Nat) (row : List Int), xss[j]? = some row ∧ f.row = j ∧ f.start = p ∧ f.stop = q ∧ p + 1 < q ∧ (q : Int) < n ∧ q < 8 ∧ j < xss.length ∧ row[p]? = some f.carrier ∧ row[q]? = some f.carrier ∧ (row.length : Int) = n := by
  obtain ⟨j, row, c, p, q, h1, h2, h3, rfl, h5, h6⟩ := (fAll_mem _ (Nat.le_refl _)).1 hf
  obtain ⟨_, a2, _, _, a5⟩ := colours_row h
  have hl := a5 row (List.mem_of_getElem? h2)
  have hq := h6.lt
  exact ⟨j, p, q, row, h2, rfl, rfl, rfl, h5, by omega, by omega, h1, h6.2.1, h6.2.2.1, hl⟩
def wide (f : FloatD) : Int := f.stop - f.start - 1
theorem longOf_facts (fs : List FloatD) (h : ∀ f ∈ fs, 0 ≤ wide f ∧ wide f ≤ 100) :
    (0 ≤ longOf fs ∧ longOf fs ≤ 100) ∧ (∀ f ∈ fs, wide f ≤ longOf fs) ∧ (longOf fs = 0 ∨ ∃ f ∈ fs, longOf fs = wide f) := by
  suffices hh : ∀ k, k ≤ fs.length → (0 ≤ longOf (fs.take k) ∧ longOf (fs.take k) ≤ 100) ∧ (∀ f ∈ fs.take k, wide f ≤ longOf (fs.take k)) ∧ (longOf (fs.take k) = 0 ∨ ∃ f ∈ fs.take k, longOf (fs.take k) = wide f) by
    have := hh fs.length (Nat.le_refl _)
    rwa [take_all (Nat.le_refl _)] at this
  intro k
  induction k with
  | zero => intro _; exact ⟨⟨by simp [longOf], by simp [longOf]⟩, by simp, .inl (by simp [longOf])⟩
  | succ k ih =>
    intro hk
    obtain ⟨i1, i2, i3⟩ := ih (by omega)
    have hx : fs[k]? = some (fs[k]'(by omega)) := List.getElem?_eq_getElem _
    obtain ⟨f, hf⟩ : ∃ f, f = fs[k]'(by omega) := ⟨_, rfl⟩
    rw [← hf] at hx
    have hw := h f (List.mem_of_getElem? hx)
    have e : wrap64 (wrap64 (f.stop - f.start) - 1) = wide f := by
      unfold wide at hw ⊢
      have e1 : wrap64 (f.stop - f.start) = f.stop - f.start := by unfold wrap64; omega
      rw [e1]
      unfold wrap64
      omega
    rw [take_snoc hx, longOf_snoc, e]
    unfold max64
    split
    · rename_i hlt
      refine ⟨i1, fun g hg => ?_, ?_⟩
      · rcases List.mem_append.1 hg with hg | hg
        · exact i2 g hg
        · rw [List.mem_singleton.1 hg]; omega
      · rcases i3 with i3 | ⟨g, hg, i3⟩
        · exact .inl i3
        · exact .inr ⟨g, by simp [hg], i3⟩
    · rename_i hlt
      refine ⟨by omega, fun g hg => ?_, .inr ⟨f, by simp, rfl⟩⟩
      rcases List.mem_append.1 hg with hg | hg
      · have := i2 g hg; omega
      · rw [List.mem_singleton.1 hg]; exact Int.le_refl _
theorem wide_ok {n : Int} {xss : List (List Int)} (h : coloursB n xss = true) : ∀ f ∈ fAll xss xss.length, 0 ≤ wide f ∧ wide f ≤ 100 := by
  intro f hf
  obtain ⟨j, p, q, row, _, _, e1, e2, h1, _, h2, _⟩ := float_ok h hf
  unfold wide
  omega
theorem long_le {n m : Int} {xss yss : List (List Int)} (h : coloursB n xss = true) (h' : coloursB m yss = true) (hh : ∀ f ∈ fAll xss xss.length, ∃ g ∈ fAll yss yss.length, wide g = wide f) : longOf (fAll xss xss.length) ≤ longOf (fAll yss yss.length) := by
  obtain ⟨_, _, a3⟩ := longOf_facts _ (wide_ok h)
  obtain ⟨b1, b2, _⟩ := longOf_facts _ (wide_ok h')
  rcases a3 with a3 | ⟨f, hf, a3⟩
  · omega
  · obtain ⟨g, hg, e⟩ := hh f hf
    have := b2 g hg
    omega
theorem rev_get {row : List Int} {t : Nat} (h : t < row.length) : row.reverse[row.length - 1 - t]? = row[t]? := by
  rw [List.getElem?_reverse (by omega), show row.length - 1 - (row.length - 1 - t) = t by omega]
theorem Nxt.rev {c : Int} {row : List Int} {p q : Nat} (h : Nxt c row p q) : Nxt c row.reverse (row.length - 1 - q) (row.length - 1 - p) := by
  have hq := h.lt
  have hp := h.1
  refine ⟨by omega, by rw [rev_get hq]; exact h.2.2.1, by rw [rev_get (by omega)]; exact h.2.1, fun t h1 h2 => ?_⟩
  have := h.2.2.2 (row.length - 1 - t) (by omega) (by omega)
  rw [← rev_get (by omega), show row.length - 1 - (row.length - 1 - t) = t by omega] at this
  exact this
theorem mir_colours {n : Int} {xss : List (List Int)} (h : coloursB n xss = true) : coloursB n (xss.map List.reverse) = true := by
  unfold coloursB at h ⊢
  simp only [Bool.and_eq_true, List.all_eq_true, List.length_map] at h ⊢
  refine ⟨h.1, fun row hr => ?_⟩
  obtain ⟨r0, hr0, rfl⟩ := List.mem_map.1 hr
  have := h.2 r0 hr0
  unfold rowOfB at this ⊢
  simpa using this
theorem mir_widths {xss : List (List Int)} : ∀ f ∈ fAll xss xss.length, ∃ g ∈ fAll (xss.map List.reverse) (xss.map List.reverse).length, wide g = wide f := by
  intro f hf
  obtain ⟨j, row, c, p, q, h1, h2, h3, rfl, h5, h6⟩ := (fAll_mem _ (Nat.le_refl _)).1 hf
  have hq := h6.lt
  refine ⟨⟨j, (c : Int) + 1, ((row.length - 1 - q : Nat) : Int), ((row.length - 1 - p : Nat) : Int)⟩, (fAll_mem _ (Nat.le_refl _)).2 ⟨j, row.reverse, c, row.length - 1 - q, row.length - 1 - p, by simpa using h1, by rw [List.getElem?_map, h2]; rfl, h3, rfl, by omega, h6.rev⟩, ?_⟩
  unfold wide
  simp only
  omega
theorem long_mirror {n : Int} {xss : List (List Int)} (h : coloursB n xss = true) : longOf (fAll (xss.map List.reverse) (xss.map List.reverse).length) = longOf (fAll xss xss.length) := by
  have h' := mir_colours h
  refine Int.le_antisymm (long_le h' h fun f hf => ?_) (long_le h h' mir_widths)
  have := mir_widths (xss := xss.map List.reverse) f hf
  rw [List.map_map, show (List.reverse ∘ List.reverse : List Int → List Int) = id by funext x; simp, List.map_id] at this
  exact this

/-- A float that is caught at a column. -/
def hitF (i c : Int) (m : Int) (t : Nat) (f : FloatD) : Bool := decide (f.row = i) && decide (f.carrier = c) && decide (f.start < t) && decide ((t : Int) < f.stop) && decide (m ∣ (t : Int) - f.start)
def hitB (i c m : Int) (fs : List FloatD) (t : Nat) : Bool := fs.any (hitF i c m t)
/-- The stitches of a carrier in row i, with tucks. -/
def tuckRow (i c m : Int) (fs : List FloatD) (row : List Int) : List Int := (List.range row.length).map fun t => if hitB i c m fs t then 6 else if row[t]? = some c then 1 else 7
theorem tuckRow_length (i c m : Int) (fs : List FloatD) (row : List Int) : (tuckRow i c m fs row).length = row.length := by simp [tuckRow]
theorem tuckRow_get {i c m : Int} {fs : List FloatD} {row : List Int} {t : Nat} (h : t < row.length) : (tuckRow i c m fs row)[t]? = some (if hitB i c m fs t then 6 else if row[t]? = some c then 1 else 7) := by
  unfold tuckRow
  rw [List.getElem?_map, List.getElem?_range h]
  rfl
theorem tuckRow_nil (i c m : Int) (row : List Int) : tuckRow i c m [] row = knitRow row c := by
  apply List.ext_getElem?
  intro t
  by_cases h : t < row.length
  · rw [tuckRow_get h, knitRow, List.getElem?_map, List.getElem?_eq_getElem h]
    simp [hitB]
  · rw [List.getElem?_eq_none (by rw [tuckRow_length]; omega), List.getElem?_eq_none (by rw [knitRow_length]; omega)]
theorem hitB_snoc {i c m : Int} {fs : List FloatD} {j : Nat} {f : FloatD} (h : fs[j]? = some f) (t : Nat) : hitB i c m (fs.take (j + 1)) t = (hitB i c m (fs.take j) t || hitF i c m t f) := by
  unfold hitB
  rw [take_snoc h, List.any_append]
  simp
theorem tuckRow_skip {i c m : Int} {fs : List FloatD} {j : Nat} {f : FloatD} (h : fs[j]? = some f) (hn : ¬ (f.row = i ∧ f.carrier = c)) (row : List Int) : tuckRow i c m (fs.take (j + 1)) row = tuckRow i c m (fs.take j) row := by
  unfold tuckRow
  refine List.map_congr_left fun t _ => ?_
  rw [hitB_snoc h]
  have : hitF i c m t f = false := by
    unfold hitF
    cases h1 : decide (f.row = i)
    · rfl
    · cases h2 : decide (f.carrier = c)
      · rfl
      · exact absurd ⟨of_decide_eq_true h1, of_decide_eq_true h2⟩ hn
  rw [this, Bool.or_false]
/-- Within one float: the tucks ahead of a column are made. -/
def tuckTo (i c m : Int) (fs : List FloatD) (row : List Int) (f : FloatD) (a : Nat) : List Int := (List.range row.length).map fun t => if hitB i c m fs t || (hitF i c m t f && decide (t < a)) then 6 else if row[t]? = some c then 1 else 7
theorem tuckTo_length (i c m : Int) (fs : List FloatD) (row : List Int) (f : FloatD) (a : Nat) : (tuckTo i c m fs row f a).length = row.length := by simp [tuckTo]
theorem tuckTo_get {i c m : Int} {fs : List FloatD} {row : List Int} {f : FloatD} {a t : Nat} (h : t < row.length) : (tuckTo i c m fs row f a)[t]? = some (if hitB i c m fs t || (hitF i c m t f && decide (t < a)) then 6 else if row[t]? = some c then 1 else 7) := by
  unfold tuckTo
  rw [List.getElem?_map, List.getElem?_range h]
  rfl
theorem dvd_near {m x y : Int} (hm : 2 ≤ m ∧ m ≤ 9) (h1 : m ∣ x) (h2 : m ∣ y) (h3 : x < y + m) (h4 : y ≤ x) : x = y := by
  obtain ⟨u, rfl⟩ := h1
  obtain ⟨v, rfl⟩ := h2
  have : m = 2 ∨ m = 3 ∨ m = 4 ∨ m = 5 ∨ m = 6 ∨ m = 7 ∨ m = 8 ∨ m = 9 := by omega
  rcases this with rfl | rfl | rfl | rfl | rfl | rfl | rfl | rfl <;> omega
theorem dvd_above {m x : Int} (hm : 2 ≤ m ∧ m ≤ 9) (h1 : m ∣ x) (h3 : 0 < x) : m ≤ x := by
  obtain ⟨u, rfl⟩ := h1
  have : m = 2 ∨ m = 3 ∨ m = 4 ∨ m = 5 ∨ m = 6 ∨ m = 7 ∨ m = 8 ∨ m = 9 := by omega
  rcases this with rfl | rfl | rfl | rfl | rfl | rfl | rfl | rfl <;> omega
theorem tuckTo_start {i c m : Int} {fs : List FloatD} {row : List Int} {f : FloatD} {p : Nat} (hm : 2 ≤ m ∧ m ≤ 9) (hp : f.start = p) {a : Nat} (ha : (a : Int) = p + m) : tuckTo i c m fs row f a = tuckRow i c m fs row := by
  unfold tuckTo tuckRow
  refine List.map_congr_left fun t _ => ?_
  have : (hitF i c m t f && decide (t < a)) = false := by
    cases hh : hitF i c m t f && decide (t < a)
    · rfl
    · unfold hitF at hh
      simp only [Bool.and_eq_true, decide_eq_true_eq] at hh
      obtain ⟨⟨⟨⟨_, h2⟩, h3⟩, h4⟩, h5⟩ := hh
      have := dvd_above hm h4 (by omega)
      omega
  rw [this, Bool.or_false]
theorem tuckTo_step {i c m : Int} {fs : List FloatD} {row : List Int} {f : FloatD} {p a b : Nat} (hm : 2 ≤ m ∧ m ≤ 9) (hp : f.start = p) (hr : f.row = i) (hc : f.carrier = c) (h1 : m ∣ (a : Int) - p) (h2 : p < a) (h3 : (a : Int) < f.stop) (hb : (b : Int) = a + m) :
    tuckTo i c m fs row f b = (tuckTo i c m fs row f a).set a 6 := by
  apply List.ext_getElem?
  intro t
  by_cases ht : t < row.length
  · rw [tuckTo_get ht]
    by_cases hta : a = t
    · subst hta
      rw [List.getElem?_set_self (by rw [tuckTo_length]; exact ht)]
      have : (hitF i c m a f && decide (a < b)) = true := by
        unfold hitF
        simp only [Bool.and_eq_true, decide_eq_true_eq]
        refine ⟨⟨⟨⟨⟨hr, hc⟩, by omega⟩, h3⟩, by rw [hp]; exact h1⟩, by omega⟩
      rw [this, Bool.or_true]
      rfl
    · rw [List.getElem?_set_ne hta, tuckTo_get ht]
      have : (hitF i c m t f && decide (t < b)) = (hitF i c m t f && decide (t < a)) := by
        cases hh : hitF i c m t f
        · rfl
        · rw [Bool.true_and, Bool.true_and]
          unfold hitF at hh
          simp only [Bool.and_eq_true, decide_eq_true_eq] at hh
          obtain ⟨⟨⟨_, h5⟩, h6⟩, h7⟩ := hh
          rw [hp] at h7
          apply decide_eq_decide.2
          constructor
          · intro hlt
            apply Classical.byContradiction
            intro hge
            exact hta (by have := dvd_near hm h7 h1 (by omega) (by omega); omega)
          · intro hlt; omega
      rw [this]
  · rw [List.getElem?_eq_none (by rw [tuckTo_length]; omega), List.getElem?_eq_none (by rw [List.length_set, tuckTo_length]; omega)]
theorem tuckTo_end {i c m : Int} {fs : List FloatD} {row : List Int} {j : Nat} {f : FloatD} {a : Nat} (h : fs[j]? = some f) (ha : f.stop ≤ (a : Int)) : tuckTo i c m (fs.take j) row f a = tuckRow i c m (fs.take (j + 1)) row := by
  unfold tuckTo tuckRow
  refine List.map_congr_left fun t _ => ?_
  rw [hitB_snoc h]
  have : (hitF i c m t f && decide (t < a)) = hitF i c m t f := by
    cases hh : hitF i c m t f
    · rfl
    · rw [Bool.true_and]
      unfold hitF at hh
      simp only [Bool.and_eq_true, decide_eq_true_eq] at hh
      exact decide_eq_true (by omega)
  rw [this]
/-- The charts in which floats are caught. -/
def colStepM (R : List Int) (row : List Int) (st : ColSt) (k : Nat) : ColSt :=
  if (k : Int) + 1 ∈ row then ⟨st.ds.set k (dirOf (st.ds[k]?.getD 0) st.rows.length), st.rows ++ [⟨dirOf (st.ds[k]?.getD 0) st.rows.length, (k : Int) + 1, R⟩]⟩ else st
def colToM (m : Int) (fs : List FloatD) (i : Int) (row : List Int) (st : ColSt) : Nat → ColSt
  | 0 => st
  | k + 1 => colStepM (tuckRow i ((k : Int) + 1) m fs row) row (colToM m fs i row st k) k
def colAllM (m : Int) (fs : List FloatD) (xss : List (List Int)) : Nat → ColSt
  | 0 => ⟨[0, 0, 0, 0], []⟩
  | i + 1 => colToM m fs i (xss[i]?.getD []) (colAllM m fs xss i) 4
theorem colAllM_succ {m : Int} {fs : List FloatD} {xss : List (List Int)} {i : Nat} {row : List Int} (h : xss[i]? = some row) : colAllM m fs xss (i + 1) = colToM m fs i row (colAllM m fs xss i) 4 := by
  rw [colAllM, h]; rfl
theorem colStepM_yes {R row : List Int} {st : ColSt} {k : Nat} {x : Int} (h : (k : Int) + 1 ∈ row) (hx : st.ds[k]? = some x) :
    colStepM R row st k = ⟨st.ds.set k (dirOf x st.rows.length), st.rows ++ [⟨dirOf x st.rows.length, (k : Int) + 1, R⟩]⟩ := by
  rw [colStepM, if_pos h, hx]
  rfl
theorem colStepM_no {R row : List Int} {st : ColSt} {k : Nat} (h : ¬ (k : Int) + 1 ∈ row) : colStepM R row st k = st := by rw [colStepM, if_neg h]
theorem ColOk.stepM {R row : List Int} {st : ColSt} {m k : Nat} (h : ColOk st m) (hk : k < 4) : ColOk (colStepM R row st k) (m + 1) := by
  by_cases hm : (k : Int) + 1 ∈ row
  · have hx : st.ds[k]? = some (st.ds[k]'(by rw [h.len]; exact hk)) := List.getElem?_eq_getElem _
    have hd := dirOf_val st.rows.length (h.dir _ (List.getElem_mem (by rw [h.len]; exact hk : k < st.ds.length)))
    rw [colStepM_yes hm hx]
    refine ⟨by simp [h.len], fun d hd' => ?_, by simp [h.size]⟩
    rcases List.mem_or_eq_of_mem_set hd' with e | e
    · exact h.dir d e
    · subst e
      rcases hd with e | e <;> simp [e]
  · rw [colStepM_no hm]
    exact ⟨h.len, h.dir, Nat.le_succ_of_le h.size⟩
theorem ColOk.toM {M : Int} {fs : List FloatD} {i : Int} {row : List Int} {st : ColSt} {m k : Nat} (h : ColOk st m) (hk : k ≤ 4) : ColOk (colToM M fs i row st k) (m + k) := by
  induction k with
  | zero => exact h
  | succ k ih => rw [colToM]; exact (ih (by omega)).stepM (by omega)
theorem ColOk.allM (M : Int) (fs : List FloatD) (xss : List (List Int)) (k : Nat) (hk : k ≤ xss.length) : ColOk (colAllM M fs xss k) (4 * k) := by
  induction k with
  | zero => exact ColOk.start
  | succ k ih => rw [colAllM]; exact (ih (by omega)).toM (Nat.le_refl 4)
def catRows (m : Int) (xss : List (List Int)) : List RowD := (colAllM m (fAll xss xss.length) xss xss.length).rows
theorem catRows_small {n m : Int} {xss : List (List Int)} (h : coloursB n xss = true) : (catRows m xss).length ≤ 32 := by
  have h8 := (colours_small h).2.2.1
  have := (ColOk.allM m (fAll xss xss.length) xss xss.length (Nat.le_refl _)).size
  unfold catRows
  omega
end Go.Proofs.Ytnjgmhdmjaijgaa

/- FnFloats, plain: the charts with caught floats beside the charts without. -/
namespace Go.Proofs.Ytnjgmhdmjaijgaa
open Go Go.RowKit

/-- What the law asks of a row with caught floats. -/
def Caught (most : Int) (a b : List Int) : Prop :=
  a.length = b.length ∧ (∀ (t : Nat) (x y : Int), a[t]? = some x → b[t]? = some y → x = y ∨ (x = 7 ∧ y = 6)) ∧
  ∀ (u v : Nat) (x y : Int), u < v → b[u]? = some x → x ≠ 7 → b[v]? = some y → y ≠ 7 → (∀ t, u < t → t < v → b[t]? = some 7) → (v : Int) - u - 1 ≤ most
theorem least_at {P : Nat → Prop} (v d : Nat) (h : P (v + d)) : ∃ q, v ≤ q ∧ P q ∧ ∀ t, v ≤ t → t < q → ¬ P t := by
  induction d using Nat.strongRecOn with
  | ind d ih =>
    by_cases he : ∃ t, v ≤ t ∧ t < v + d ∧ P t
    · obtain ⟨t, h1, h2, h3⟩ := he
      obtain ⟨e, rfl⟩ : ∃ e, t = v + e := ⟨t - v, by omega⟩
      exact ih e (by omega) h3
    · exact ⟨v + d, by omega, h, fun t h1 h2 h3 => he ⟨t, h1, h2, h3⟩⟩
section
variable {xss : List (List Int)} {row : List Int} {i c0 : Nat} {m : Int}
theorem hit_iff (hx : xss[i]? = some row) (hc : c0 < 4) (t : Nat) : hitB i ((c0 : Int) + 1) m (fAll xss xss.length) t = true ↔ ∃ p q : Nat, p < t ∧ t < q ∧ m ∣ (t : Int) - p ∧ Nxt ((c0 : Int) + 1) row p q := by
  have hi : i < xss.length := (List.getElem?_eq_some_iff.1 hx).1
  unfold hitB
  rw [List.any_eq_true]
  constructor
  · rintro ⟨f, hf, hh⟩
    obtain ⟨j, row', c, p, q, h1, h2, h3, rfl, h5, h6⟩ := (fAll_mem _ (Nat.le_refl _)).1 hf
    unfold hitF at hh
    simp only [Bool.and_eq_true, decide_eq_true_eq] at hh
    obtain ⟨⟨⟨⟨e1, e2⟩, e3⟩, e4⟩, e5⟩ := hh
    have : j = i := by omega
    subst this
    have : c = c0 := by omega
    subst this
    rw [hx] at h2
    injection h2 with h2
    subst h2
    exact ⟨p, q, by omega, by omega, e5, h6⟩
  · rintro ⟨p, q, h1, h2, h3, h4⟩
    refine ⟨⟨i, (c0 : Int) + 1, p, q⟩, (fAll_mem _ (Nat.le_refl _)).2 ⟨i, row, c0, p, q, hi, hx, hc, rfl, by omega, h4⟩, ?_⟩
    unfold hitF
    simp only [Bool.and_eq_true, decide_eq_true_eq]
    exact ⟨⟨⟨⟨trivial, trivial⟩, by omega⟩, by omega⟩, h3⟩
/-- A row with caught floats is as the law asks. -/
theorem tuck_caught (hx : xss[i]? = some row) (hc : c0 < 4) (hm : 2 ≤ m ∧ m ≤ 9) : Caught (m - 1) (knitRow row ((c0 : Int) + 1)) (tuckRow i ((c0 : Int) + 1) m (fAll xss xss.length) row) := by
  refine ⟨by rw [knitRow_length, tuckRow_length], fun t x y h1 h2 => ?_, fun u v x y huv hu hux hv hvy hb => ?_⟩
  · have ht : t < row.length := by have := (List.getElem?_eq_some_iff.1 h1).1; rwa [knitRow_length] at this
    rw [tuckRow_get ht] at h2
    rw [knitRow, List.getElem?_map, List.getElem?_eq_getElem ht] at h1
    simp only [Option.map_some, Option.some.injEq] at h1 h2
    rw [List.getElem?_eq_getElem ht] at h2
    by_cases hh : hitB i ((c0 : Int) + 1) m (fAll xss xss.length) t = true
    · rw [if_pos hh] at h2
      obtain ⟨p, q, g1, g2, _, g4⟩ := (hit_iff hx hc t).1 hh
      have := g4.2.2.2 t g1 g2
      rw [List.getElem?_eq_getElem ht] at this
      rw [if_neg (fun e => this (by rw [e]))] at h1
      exact .inr ⟨h1.symm, h2.symm⟩
    · rw [if_neg hh] at h2
      left
      rw [← h1, ← h2]
      simp only [Option.some.injEq]
  · have hlu : u < row.length := by have := (List.getElem?_eq_some_iff.1 hu).1; rwa [tuckRow_length] at this
    have hlv : v < row.length := by have := (List.getElem?_eq_some_iff.1 hv).1; rwa [tuckRow_length] at this
    rw [tuckRow_get hlu] at hu
    rw [tuckRow_get hlv] at hv
    injection hu with hu
    injection hv with hv
    apply Classical.byContradiction
    intro hgap
    -- the last stitch of the carrier at or ahead of u
    obtain ⟨p, hp1, hp2, hp3, hp4⟩ : ∃ p, p ≤ u ∧ row[p]? = some ((c0 : Int) + 1) ∧ m ∣ (u : Int) - p ∧ ∀ t, p < t → t ≤ u → row[t]? ≠ some ((c0 : Int) + 1) := by
      by_cases hr : row[u]? = some ((c0 : Int) + 1)
      · exact ⟨u, Nat.le_refl _, hr, by rw [Int.sub_self]; exact ⟨0, by simp⟩, fun t h1 h2 => absurd h1 (by omega)⟩
      · rw [if_neg hr] at hu
        by_cases hh : hitB i ((c0 : Int) + 1) m (fAll xss xss.length) u = true
        · obtain ⟨p, q, g1, g2, g3, g4⟩ := (hit_iff hx hc u).1 hh
          exact ⟨p, by omega, g4.2.1, g3, fun t h1 h2 => g4.2.2.2 t h1 (by omega)⟩
        · rw [if_neg hh] at hu
          exact absurd hu.symm hux
    -- the next one lies at v or behind it
    obtain ⟨K, hK1, hK2⟩ : ∃ K, v ≤ K ∧ row[K]? = some ((c0 : Int) + 1) := by
      by_cases hr : row[v]? = some ((c0 : Int) + 1)
      · exact ⟨v, Nat.le_refl _, hr⟩
      · rw [if_neg hr] at hv
        by_cases hh : hitB i ((c0 : Int) + 1) m (fAll xss xss.length) v = true
        · obtain ⟨p', q, g1, g2, g3, g4⟩ := (hit_iff hx hc v).1 hh
          exact ⟨q, by omega, g4.2.2.1⟩
        · rw [if_neg hh] at hv
          exact absurd hv.symm hvy
    obtain ⟨d, rfl⟩ : ∃ d, K = v + d := ⟨K - v, by omega⟩
    obtain ⟨q, hq1, hq2, hq3⟩ := least_at (P := fun t => row[t]? = some ((c0 : Int) + 1)) v d hK2
    have hmid : ∀ t, u < t → t < v → row[t]? ≠ some ((c0 : Int) + 1) := by
      intro t h1 h2 e
      have h3 := hb t h1 h2
      rw [tuckRow_get (by omega)] at h3
      injection h3 with h3
      by_cases hh : hitB i ((c0 : Int) + 1) m (fAll xss xss.length) t = true
      · rw [if_pos hh] at h3; simp at h3
      · rw [if_neg hh, if_pos e] at h3; simp at h3
    have hN : Nxt ((c0 : Int) + 1) row p q := by
      refine ⟨by omega, hp2, hq2, fun t h1 h2 => ?_⟩
      by_cases h3 : t ≤ u
      · exact hp4 t h1 h3
      · by_cases h4 : t < v
        · exact hmid t (by omega) h4
        · exact hq3 t (by omega) h2
    obtain ⟨mn, hmn⟩ : ∃ mn : Nat, m = mn := ⟨m.toNat, by omega⟩
    have ht1 : u < u + mn := by omega
    have ht2 : u + mn < v := by omega
    have h7 := hb (u + mn) ht1 ht2
    rw [tuckRow_get (by omega)] at h7
    injection h7 with h7
    have hh : hitB i ((c0 : Int) + 1) m (fAll xss xss.length) (u + mn) = true := by
      refine (hit_iff hx hc _).2 ⟨p, q, by omega, by omega, ?_, hN⟩
      have e : ((u + mn : Nat) : Int) - p = ((u : Int) - p) + m := by omega
      rw [e]
      exact Int.dvd_add hp3 (Int.dvd_refl m)
    rw [if_pos hh] at h7
    simp at h7
end
/-- Rows that differ in their stitches alone, and there as the law asks. -/
inductive RowsCaught (most : Int) : List RowD → List RowD → Prop
  | nil : RowsCaught most [] []
  | cons {a b : RowD} {as_ bs : List RowD} (h : Caught most a.s b.s) (t : RowsCaught most as_ bs) : RowsCaught most (a :: as_) (b :: bs)
theorem RowsCaught.snoc {most : Int} {as_ bs : List RowD} {a b : RowD} (h : RowsCaught most as_ bs) (k : Caught most a.s b.s) : RowsCaught most (as_ ++ [a]) (bs ++ [b]) := by
  induction h with
  | nil => exact .cons k .nil
  | cons h _ ih => exact .cons h ih
theorem RowsCaught.len {most : Int} {as_ bs : List RowD} (h : RowsCaught most as_ bs) : as_.length = bs.length := by
  induction h with
  | nil => rfl
  | cons _ _ ih => simp [ih]
theorem RowsCaught.at {most : Int} {as_ bs : List RowD} (h : RowsCaught most as_ bs) {i : Nat} {a b : RowD} (ha : as_[i]? = some a) (hb : bs[i]? = some b) : Caught most a.s b.s := by
  induction h generalizing i with
  | nil => simp at ha
  | cons h _ ih =>
    cases i with
    | zero =>
      simp at ha hb
      subst ha hb
      exact h
    | succ i => exact ih (by simpa using ha) (by simpa using hb)
theorem colTo_caught {m : Int} (hm : 2 ≤ m ∧ m ≤ 9) {xss : List (List Int)} {i : Nat} {row : List Int} (hx : xss[i]? = some row) {st st' : ColSt} (hd : st.ds = st'.ds) (hr : RowsCaught (m - 1) st.rows st'.rows) (k : Nat) (hk : k ≤ 4) :
    (colTo row st k).ds = (colToM m (fAll xss xss.length) i row st' k).ds ∧ RowsCaught (m - 1) (colTo row st k).rows (colToM m (fAll xss xss.length) i row st' k).rows := by
  induction k with
  | zero => exact ⟨hd, hr⟩
  | succ k ih =>
    obtain ⟨h1, h2⟩ := ih (by omega)
    rw [colTo_succ, colToM]
    generalize colTo row st k = s at *
    generalize colToM m (fAll xss xss.length) i row st' k = s' at *
    by_cases hmem : (k : Int) + 1 ∈ row
    · rw [colStep, if_pos hmem, colStepM, if_pos hmem, h1, h2.len]
      exact ⟨rfl, h2.snoc (tuck_caught hx (by omega) hm)⟩
    · rw [colStep_no hmem, colStepM_no hmem]
      exact ⟨h1, h2⟩
theorem colAll_caught {m : Int} (hm : 2 ≤ m ∧ m ≤ 9) (xss : List (List Int)) (i : Nat) (hi : i ≤ xss.length) :
    (colAll (xss.take i)).ds = (colAllM m (fAll xss xss.length) xss i).ds ∧ RowsCaught (m - 1) (colAll (xss.take i)).rows (colAllM m (fAll xss xss.length) xss i).rows := by
  induction i with
  | zero => exact ⟨rfl, .nil⟩
  | succ i ih =>
    obtain ⟨h1, h2⟩ := ih (by omega)
    have hx : xss[i]? = some (xss[i]'(by omega)) := List.getElem?_eq_getElem _
    rw [colAll_snoc hx, colAllM_succ hx]
    exact colTo_caught hm hx h1 h2 4 (Nat.le_refl _)
theorem rows_caught {m : Int} (hm : 2 ≤ m ∧ m ≤ 9) (xss : List (List Int)) : RowsCaught (m - 1) (cofRows xss) (catRows m xss) := by
  have := (colAll_caught hm xss xss.length (Nat.le_refl _)).2
  rwa [take_all (Nat.le_refl _)] at this

/-- Knits and slips keep columns of one loop. -/
def OnlyKS (ks : List Int) : Prop := ∀ k ∈ ks, k = 1 ∨ k = 7
theorem knit_only (row : List Int) (c : Int) : OnlyKS (knitRow row c) := by
  intro k hk
  obtain ⟨x, _, rfl⟩ := List.mem_map.1 hk
  split <;> simp
theorem ks_after {ks : List Int} (h : OnlyKS ks) : takenS ks = ks.length ∧ afterP ks (List.replicate ks.length 1) = List.replicate ks.length 1 ∧ okAfter ks (List.replicate ks.length 1) = true ∧ changesP ks (List.replicate ks.length 1) = List.replicate ks.length 0 := by
  induction ks with
  | nil => exact ⟨rfl, rfl, rfl, rfl⟩
  | cons k ks ih =>
    obtain ⟨i0, i1, i2, i3⟩ := ih (fun x hx => h x (by simp [hx]))
    have hk : takenN k = 1 ∧ stepMade k (List.replicate (ks.length + 1) 1) = [1] ∧ stepOk k (List.replicate (ks.length + 1) 1) = true := by
      rcases h k (by simp) with rfl | rfl <;> exact ⟨rfl, rfl, rfl⟩
    have ed : (List.replicate (ks.length + 1) (1 : Int)).drop (takenN k) = List.replicate ks.length 1 := by rw [hk.1, List.drop_replicate]; rfl
    have et : (List.replicate (ks.length + 1) (1 : Int)).take (takenN k) = [1] := by rw [hk.1, List.take_replicate, show min 1 (ks.length + 1) = 1 by omega]; rfl
    refine ⟨by rw [takenS, i0, hk.1, List.length_cons]; omega, ?_, ?_, ?_⟩
    · rw [List.length_cons, afterP, hk.2.1, ed, i1]; rfl
    · rw [List.length_cons, okAfter, hk.2.2, ed, i2]; rfl
    · rw [List.length_cons, changesP, changeI, hk.2.1, ed, et, i3, Int.sub_self]; rfl
theorem limB_zero' {s : Int} (h : s ≤ 12) (m : Nat) : limB s (List.replicate m 0) = true := by
  induction m with
  | zero => rfl
  | succ m ih => rw [List.replicate_succ, limB, Int.add_zero, ih, decide_eq_true h]; rfl
theorem sumI_one' (m : Nat) : sumI (List.replicate m 1) = m := by
  induction m with
  | zero => rfl
  | succ m ih => rw [List.replicate_succ, sumI, ih]; omega
theorem ks_row {ks : List Int} (h : OnlyKS ks) (hm : ks.length ≤ 8) {d car : Int} (hd : d = 1 ∨ d = -1) (hc : carrierB car = true) : rowOkB (List.replicate ks.length 1) ⟨d, car, ks⟩ = true ∧ (stacksAfterP (List.replicate ks.length 1) ks).1 = List.replicate ks.length 1 := by
  have hs : stitchesB ks = true := by
    unfold stitchesB
    rw [Bool.and_eq_true, List.all_eq_true, decide_eq_true_eq]
    refine ⟨fun k hk => ?_, by omega⟩
    rcases h k hk with rfl | rfl <;> decide
  obtain ⟨a0, a1, a2, a3⟩ := ks_after h
  have hst : stacksB (List.replicate ks.length 1) = true := by
    unfold stacksB
    rw [Bool.and_eq_true, List.all_eq_true, decide_eq_true_eq, List.length_replicate]
    refine ⟨fun x hx => ?_, hm⟩
    rw [(List.mem_replicate.1 hx).2]
    decide
  have hsa : stacksAfterP (List.replicate ks.length 1) ks = (List.replicate ks.length 1, 0) := by
    unfold stacksAfterP
    rw [hst, hs, if_pos (by rfl), if_pos (by rw [List.length_replicate]; exact a0), a1, a2, if_pos (by rw [List.length_replicate]; simpa using hm)]
  refine ⟨?_, by rw [hsa]⟩
  unfold rowOkB rowB dirB stepCode keepB
  rw [hsa, hc, a3, sumI_one', ordL]
  simp only [Bool.and_eq_true, Bool.or_eq_true, beq_iff_eq, decide_eq_true_eq]
  refine ⟨⟨⟨⟨hd, trivial⟩, hs⟩, trivial⟩, ?_⟩
  split
  · rw [List.reverse_replicate]; exact limB_zero' (by omega) _
  · exact limB_zero' (by omega) _
/-- A row of the plain chart: knits and slips over all columns, a direction, a carrier. -/
def PlainRow (n : Nat) (r : RowD) : Prop := (r.d = 1 ∨ r.d = -1) ∧ carrierB r.r = true ∧ OnlyKS r.s ∧ r.s.length = n
theorem plain_okB {n : Nat} (hn : n ≤ 8) : ∀ (rs : List RowD), (∀ r ∈ rs, PlainRow n r) → rowsOkB (List.replicate n 1) rs = true
  | [], _ => rfl
  | r :: rs, h => by
    obtain ⟨h1, h2, h3, h4⟩ := h r (by simp)
    subst h4
    obtain ⟨q1, q2⟩ := ks_row h3 hn h1 h2
    rw [rowsOkB, show (⟨r.d, r.r, r.s⟩ : RowD) = r from rfl] at *
    rw [q1, q2, plain_okB hn rs (fun r' hr' => h r' (by simp [hr']))]
    rfl
theorem colTo_plain {n : Nat} {row : List Int} (hl : row.length = n) {st : ColSt} {q : Nat} (hok : ColOk st q) (h : ∀ r ∈ st.rows, PlainRow n r) (k : Nat) (hk : k ≤ 4) : ∀ r ∈ (colTo row st k).rows, PlainRow n r := by
  induction k with
  | zero => exact h
  | succ k ih =>
    have hok' := (hok.to (row := row) (k := k) (by omega))
    obtain ⟨x, hx, hx3⟩ := hok'.at (k := k) (by omega)
    rw [colTo_succ]
    by_cases hmem : (k : Int) + 1 ∈ row
    · rw [colStep_yes hmem hx]
      intro r hr
      rcases List.mem_append.1 hr with hr | hr
      · exact ih (by omega) r hr
      · rw [List.mem_singleton.1 hr]
        exact ⟨dirOf_val _ hx3, by show inR ((k : Int) + 1) 1 4 = true; exact inR_iff.2 (by omega), knit_only _ _, by rw [knitRow_length]; exact hl⟩
    · rw [colStep_no hmem]
      exact ih (by omega)
theorem colAll_plain {n : Int} {xss : List (List Int)} (h : coloursB n xss = true) (i : Nat) (hi : i ≤ xss.length) : ∀ r ∈ (colAll (xss.take i)).rows, PlainRow n.toNat r := by
  induction i with
  | zero => intro r hr; simp [colAll] at hr
  | succ i ih =>
    have hx : xss[i]? = some (xss[i]'(by omega)) := List.getElem?_eq_getElem _
    have hl := (colours_small h).2.2.2 _ (List.mem_of_getElem? hx)
    rw [colAll_snoc hx]
    exact colTo_plain (by omega) (ColOk.all xss i (by omega)) (ih (by omega)) 4 (Nat.le_refl _)
theorem colTo_grows {row : List Int} (st : ColSt) (k : Nat) : st.rows.length ≤ (colTo row st k).rows.length := by
  induction k with
  | zero => exact Nat.le_refl _
  | succ k ih =>
    rw [colTo_succ, colStep]
    split
    · simp; omega
    · exact ih
theorem colTo_some {row : List Int} (st : ColSt) {c k : Nat} (h : (c : Int) + 1 ∈ row) (hk : c < k) : st.rows.length < (colTo row st k).rows.length := by
  induction k with
  | zero => omega
  | succ k ih =>
    rw [colTo_succ]
    by_cases hc : c = k
    · subst hc
      rw [colStep, if_pos h]
      have := colTo_grows (row := row) st c
      simp; omega
    · have := ih (by omega)
      rw [colStep]
      split
      · simp; omega
      · exact this
theorem cofRows_some {n : Int} {xss : List (List Int)} (h : coloursB n xss = true) : 1 ≤ (cofRows xss).length := by
  obtain ⟨a1, a2, a3, a4, a5⟩ := colours_row h
  have hx : xss[0]? = some (xss[0]'(by omega)) := List.getElem?_eq_getElem _
  obtain ⟨row, hrow⟩ : ∃ row, row = xss[0]'(by omega) := ⟨_, rfl⟩
  rw [← hrow] at hx
  have hl := a5 row (List.mem_of_getElem? hx)
  have hcar : ∀ x ∈ row, carrierB x = true := by
    unfold coloursB at h
    simp only [Bool.and_eq_true, List.all_eq_true] at h
    have := h.2 row (List.mem_of_getElem? hx)
    unfold rowOfB at this
    simp only [Bool.and_eq_true, List.all_eq_true] at this
    exact this.2
  have h0 : row[0]? = some (row[0]'(by omega)) := List.getElem?_eq_getElem _
  have hm := List.mem_of_getElem? h0
  have hc := inR_iff.1 (hcar _ hm)
  obtain ⟨c, hcc⟩ : ∃ c : Nat, row[0]'(by omega) = (c : Int) + 1 := ⟨(row[0]'(by omega) - 1).toNat, by omega⟩
  rw [hcc] at hm hc
  have h1 : 1 ≤ (colAll (xss.take 1)).rows.length := by
    rw [colAll_snoc hx]
    have := colTo_some (colAll (xss.take 0)) hm (k := 4) (by omega)
    omega
  have h2 : ∀ i, 1 ≤ i → i ≤ xss.length → 1 ≤ (colAll (xss.take i)).rows.length := by
    intro i
    induction i with
    | zero => omega
    | succ i ih =>
      intro _ hi
      by_cases h0 : i = 0
      · subst h0; exact h1
      · have hx' : xss[i]? = some (xss[i]'(by omega)) := List.getElem?_eq_getElem _
        rw [colAll_snoc hx']
        exact Nat.le_trans (ih (by omega) (by omega)) (colTo_grows _ _)
  have := h2 xss.length a3 (Nat.le_refl _)
  rwa [take_all (Nat.le_refl _)] at this
/-- The only thing that can be wrong with the plain chart is that it has too many rows. -/
theorem cof_chart {n : Int} {xss : List (List Int)} (h : coloursB n xss = true) (h8 : (cofRows xss).length ≤ 8) : chartB n (cofRows xss) = true := by
  obtain ⟨a1, a2, _, _⟩ := colours_small h
  have h1 := cofRows_some h
  have hp := colAll_plain h xss.length (Nat.le_refl _)
  rw [take_all (Nat.le_refl _)] at hp
  unfold chartB
  rw [plain_okB (by omega) (cofRows xss) hp]
  simp only [Bool.and_true, Bool.and_eq_true]
  exact ⟨inR_iff.2 (by omega), inR_iff.2 (by omega)⟩
def catCode (n m : Int) (xss : List (List Int)) : Int := if chartB n (catRows m xss) then 0 else 5
/-- Where the plain chart is not valid, neither is the other. -/
theorem cat_full {n m : Int} {xss : List (List Int)} (hm : 2 ≤ m ∧ m ≤ 9) (h : coloursB n xss = true) (h5 : cofCode n xss ≠ 0) : catCode n m xss = 5 := by
  have hlen := (rows_caught hm xss).len
  have : ¬ (cofRows xss).length ≤ 8 := fun h8 => h5 (by rw [cofCode, if_pos h, if_pos (cof_chart h h8)])
  unfold catCode
  have hb : chartB n (catRows m xss) = false := by
    cases hc : chartB n (catRows m xss)
    · rfl
    · have := (chartB_of hc).2.1.2; omega
  rw [hb]; rfl
end Go.Proofs.Ytnjgmhdmjaijgaa
