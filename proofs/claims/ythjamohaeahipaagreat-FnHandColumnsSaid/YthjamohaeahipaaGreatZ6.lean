/- Steps of the proof, joined from several texts: CB TH TI TL MD TJ. -/
import Derived.Test.YthjamohaeahipaaGreatZ5
import Derived.BigRegion
import Derived.Deep.RegionLaw

/- ChartOfBraid: the plain function; slices of rows that grow. -/
namespace Go.Proofs.YthjamohaeahipaaGreat
open Go.RowKit

structure ChX where
  n : Int
  xs : List RowD
def rowsFrom (n : Nat) (car : Int) : List (List Int) → Int → List RowD
  | [], _ => []
  | g :: gs, d => ⟨d, car, rowFrom n g 0⟩ :: rowsFrom n car gs (-d)
def groupsOf (xs : List Int) : List (List Int) := if pack xs = [] then [[]] else pack xs
def cobCode (n : Int) (xs : List Int) (car : Int) : Int := if braidB n xs then (if inR n 1 8 && carrierB car then (if (pack xs).length ≤ 8 then 0 else 5) else 2) else 1
def cobX (n : Int) (xs : List Int) (car : Int) : ChX := if cobCode n xs car = 0 then ⟨n, rowsFrom n.toNat car (groupsOf xs) (-1)⟩ else ⟨0, []⟩
theorem rowsFrom_length (n : Nat) (car : Int) (gs : List (List Int)) (d : Int) : (rowsFrom n car gs d).length = gs.length := by
  induction gs generalizing d with
  | nil => rfl
  | cons g gs ih => simp [rowsFrom, ih]
theorem rowsFrom_len (n : Nat) (car : Int) (gs : List (List Int)) (d : Int) : lenRows (rowsFrom n car gs d) ≤ gs.length * n := by
  induction gs generalizing d with
  | nil => simp [rowsFrom, lenRows]
  | cons g gs ih =>
    have h1 := ih (-d)
    have h2 := rowFrom_length n g n 0 (by omega)
    simp only [rowsFrom, lenRows, List.length_cons, Nat.succ_mul]
    omega
theorem cobX_size (n : Int) (xs : List Int) (car : Int) : (cobX n xs car).xs.length ≤ 9 ∧ cntRows (cobX n xs car).xs ≤ 1000 := by
  unfold cobX
  split
  · rename_i h
    have hp : (pack xs).length ≤ 8 ∧ n ≤ 8 := by
      unfold cobCode at h
      split at h
      · split at h
        · rename_i h2
          simp only [Bool.and_eq_true] at h2
          have := inR_iff.1 h2.1
          split at h
          · exact ⟨by assumption, this.2⟩
          · simp at h
        · simp at h
      · simp at h
    have hg : (groupsOf xs).length ≤ 8 := by
      unfold groupsOf
      split
      · simp
      · exact hp.1
    have h1 := rowsFrom_length n.toNat car (groupsOf xs) (-1)
    have h2 := rowsFrom_len n.toNat car (groupsOf xs) (-1)
    have h3 : (groupsOf xs).length * n.toNat ≤ 8 * 8 := Nat.mul_le_mul hg (by omega)
    refine ⟨by simp only []; omega, ?_⟩
    unfold cntRows
    simp only []
    omega
  · simp [cntRows, lenRows]
theorem cob_err {n : Int} {xs : List Int} {car k : Int} (e : cobCode n xs car = k) (hk : k ≠ 0) : cobX n xs car = ⟨0, []⟩ ∧ cobCode n xs car = k := ⟨by rw [cobX, if_neg (by rw [e]; exact hk)], e⟩
theorem rowsFrom_drop {n : Nat} {car : Int} {gs : List (List Int)} {i : Nat} {g : List Int} {d : Int} (h : gs[i]? = some g) : rowsFrom n car (gs.drop i) d = ⟨d, car, rowFrom n g 0⟩ :: rowsFrom n car (gs.drop (i + 1)) (-d) := by rw [drop_cons h, rowsFrom]

theorem CellsRows.keepT {w w' : World} {lo hi : Nat} {cs : List Value} {rs : List RowD} (h : CellsRows w lo hi cs rs) (hk : ∀ k cur, lo ≤ k → k < hi → w.heap[k]? = some (.cells cur 2 (0, 0)) → w'.heap[k]? = w.heap[k]?) : CellsRows w' lo hi cs rs :=
  ⟨h.1, fun k r hx => by obtain ⟨A', c', h0, h1, h2, h3⟩ := h.2.1 k r hx; exact ⟨A', c', h0, h1, h2, h3.keepT hk⟩, h.2.2⟩
theorem CellsRows.grownT {w w' : World} {lo hi : Nat} {cs : List Value} {rs : List RowD} {lo2 hi2 : Nat} {e2 : TypeId} {sz2 : Nat} {B : Option Addr} {n2 c2 : Nat} {cs2 : List Value}
    (h : CellsRows w lo hi cs rs) (h2 : OwnC w lo2 hi2 e2 sz2 B n2 c2 cs2) (ht : (2 : TypeId) ≠ e2) (hg : w.grownBy w' (Value.slice B n2 c2).ownBlock) : CellsRows w' lo hi cs rs :=
  ⟨h.1, fun k r hx => by obtain ⟨A', c', h0, h1, h3, h4⟩ := h.2.1 k r hx; exact ⟨A', c', h0, h1, h3, h4.grownT h2 ht hg⟩, h.2.2⟩
theorem CellsRows.farT {w : World} {lo hi : Nat} {cs : List Value} {rs : List RowD} {g : Nat} {t : TypeId} {bs : Array Value} (h : CellsRows w lo hi cs rs) (hb : Blk w g t bs) (ht : t ≠ 2) (j : Nat) (u : Value) : CellsRows (w.setCell ⟨g, j, none⟩ u) lo hi cs rs :=
  ⟨h.1, fun k r hx => by obtain ⟨A', c', h0, h1, h3, h4⟩ := h.2.1 k r hx; exact ⟨A', c', h0, h1, h3, h4.farT hb ht j u⟩, h.2.2⟩
/-- One more row, its stitches in blocks behind those of the others. -/
theorem CellsRows.snoc {w : World} {lo m hi : Nat} {cs : List Value} {rs : List RowD} {A' : Option Addr} {c' : Nat} {r : RowD}
    (h : CellsRows w lo m cs rs) (ho : OwnI w m hi A' c' r.s) (h1 : lo ≤ m) (h2 : m ≤ hi) : CellsRows w lo hi (cs ++ [.int .i64 r.d, .int .i64 r.r, .slice A' r.s.length c']) (rs ++ [r]) := by
  have hB : ∀ {i : Nat} {v : Value} {g : Nat}, cs[i]? = some v → v.ownBlock = some g → lo ≤ g ∧ g < m := fun hi' hv => by have := h.block hi' hv; exact ⟨this.1, this.2.1⟩
  obtain ⟨ha, hb, hc⟩ := h
  have at2 : ∀ i v, ¬ i < cs.length → (cs ++ [.int .i64 r.d, .int .i64 r.r, .slice A' r.s.length c'])[i]? = some v → (i = cs.length ∧ v = .int .i64 r.d) ∨ (i = cs.length + 1 ∧ v = .int .i64 r.r) ∨ (i = cs.length + 2 ∧ v = .slice A' r.s.length c') := by
    intro i v hn hv
    have hil := (List.getElem?_eq_some_iff.1 hv).1
    simp at hil
    rw [List.getElem?_append_right (by omega)] at hv
    have : i - cs.length = 0 ∨ i - cs.length = 1 ∨ i - cs.length = 2 := by omega
    rcases this with e | e | e
    · rw [e] at hv; simp at hv; exact .inl ⟨by omega, hv.symm⟩
    · rw [e] at hv; simp at hv; exact .inr (.inl ⟨by omega, hv.symm⟩)
    · rw [e] at hv; simp at hv; exact .inr (.inr ⟨by omega, hv.symm⟩)
  refine ⟨by simp [ha]; omega, fun k q hq => ?_, fun i j v v' g hi' hj hv hv' => ?_⟩
  · rcases Nat.lt_or_ge k rs.length with hk | hk
    · rw [List.getElem?_append_left hk] at hq
      obtain ⟨A2, c2, e0, e1, e2, e3⟩ := hb k q hq
      exact ⟨A2, c2, by rw [List.getElem?_append_left (by omega)]; exact e0, by rw [List.getElem?_append_left (by omega)]; exact e1, by rw [List.getElem?_append_left (by omega)]; exact e2, e3.mono (Nat.le_refl _) h2⟩
    · have hkl := (List.getElem?_eq_some_iff.1 hq).1
      simp at hkl
      obtain rfl : k = rs.length := by omega
      simp at hq
      subst hq
      refine ⟨A', c', ?_, ?_, ?_, ho.mono h1 (Nat.le_refl _)⟩
      · rw [List.getElem?_append_right (by omega), ha, Nat.sub_self]; rfl
      · rw [List.getElem?_append_right (by omega), ha, show rs.length * 3 + 1 - rs.length * 3 = 1 by omega]; rfl
      · rw [List.getElem?_append_right (by omega), ha, show rs.length * 3 + 2 - rs.length * 3 = 2 by omega]; rfl
  · have new : (Value.slice A' r.s.length c').ownBlock = some g → m ≤ g := fun e => (ho.own.lt g e).1
    by_cases ei : i < cs.length
    · have bi := hB (by rw [List.getElem?_append_left ei] at hi'; exact hi') hv
      by_cases ej : j < cs.length
      · rw [List.getElem?_append_left ei] at hi'
        rw [List.getElem?_append_left ej] at hj
        exact hc i j v v' g hi' hj hv hv'
      · rcases at2 j v' ej hj with ⟨_, rfl⟩ | ⟨_, rfl⟩ | ⟨_, rfl⟩
        · simp [Value.ownBlock] at hv'
        · simp [Value.ownBlock] at hv'
        · have := new hv'; omega
    · rcases at2 i v ei hi' with ⟨_, rfl⟩ | ⟨_, rfl⟩ | ⟨e1, rfl⟩
      · simp [Value.ownBlock] at hv
      · simp [Value.ownBlock] at hv
      · by_cases ej : j < cs.length
        · have bj := hB (by rw [List.getElem?_append_left ej] at hj; exact hj) hv'
          have := new hv
          omega
        · rcases at2 j v' ej hj with ⟨_, rfl⟩ | ⟨_, rfl⟩ | ⟨e2, rfl⟩
          · simp [Value.ownBlock] at hv'
          · simp [Value.ownBlock] at hv'
          · omega
theorem CellsRows.nil {w : World} {lo hi : Nat} : CellsRows w lo hi [] [] := ⟨rfl, fun k r hx => by simp at hx, fun i j v v' g hi' => by simp at hi'⟩
theorem Ints.drew1 {w : World} {A : Option Addr} {xs : List Int} (h : Ints w A xs) : Ints (World.drew w) A xs := h

end Go.Proofs.YthjamohaeahipaaGreat

/- Charts: the plain functions of a chart's stacks and of the limit on strands. -/
namespace Go.Proofs.YthjamohaeahipaaGreat
open Go.RowKit

def sumI : List Int → Int
  | [] => 0
  | x :: xs => x + sumI xs
theorem sumI_append (a b : List Int) : sumI (a ++ b) = sumI a + sumI b := by
  induction a with
  | nil => simp [sumI]
  | cons x r ih => simp [sumI, ih]; omega
theorem sumI_snoc {xs : List Int} {i : Nat} {x : Int} (h : xs[i]? = some x) : sumI (xs.take (i + 1)) = sumI (xs.take i) + x := by
  rw [take_snoc h, sumI_append]; simp [sumI]
def tinyB (xs : List Int) : Prop := ∀ x ∈ xs, 0 ≤ x ∧ x ≤ 5
theorem sumI_le {xs : List Int} (h : tinyB xs) : 0 ≤ sumI xs ∧ sumI xs ≤ 5 * xs.length := by
  induction xs with
  | nil => simp [sumI]
  | cons x r ih =>
    have h1 := h x (by simp)
    have h2 := ih fun y hy => h y (by simp [hy])
    simp only [sumI, List.length_cons]
    omega
theorem tinyB_take {xs : List Int} (h : tinyB xs) (k : Nat) : tinyB (xs.take k) := fun y hy => h y (List.mem_of_mem_take hy)
theorem tinyB_drop {xs : List Int} (h : tinyB xs) (k : Nat) : tinyB (xs.drop k) := fun y hy => h y (List.mem_of_mem_drop hy)
theorem tinyB_of {st : List Int} (h : ∀ x ∈ st, inR x 1 4 = true) : tinyB st := fun y hy => by have := inR_iff.1 (h y hy); omega
theorem tinyB_made (k : Int) {st : List Int} (h : ∀ x ∈ st, inR x 1 4 = true) : tinyB (stepMade k st) := by
  have h0 : 0 ≤ st0 st ∧ st0 st ≤ 4 := by
    unfold st0
    cases e : st[0]? with
    | none => simp
    | some x => have := inR_iff.1 (h x (List.mem_of_getElem? e)); simp; omega
  intro y hy
  unfold stepMade at hy
  split at hy
  · simp at hy
    have hw : wrap64 (st0 st + 1) = st0 st + 1 := IntWalk.wrap64_in _ ⟨by omega, by omega⟩
    omega
  · split at hy
    · simp at hy; omega
    · have := (List.mem_replicate.1 hy).2; omega
theorem stepMade_madeN {k : Int} (hk : isStitchB k = true) (st : List Int) : (stepMade k st).length = madeN k := by
  unfold stepMade
  rcases stitch_cases hk with rfl | rfl | rfl | rfl | rfl | rfl | rfl | rfl | rfl | rfl | rfl <;> simp <;> rfl
def changeI (k : Int) (st : List Int) : Int := sumI (stepMade k st) - sumI (st.take (takenN k))
def changesP : List Int → List Int → List Int
  | [], _ => []
  | k :: ks, st => changeI k st :: changesP ks (st.drop (takenN k))
theorem changesP_length (ks st : List Int) : (changesP ks st).length = ks.length := by
  induction ks generalizing st with
  | nil => rfl
  | cons k ks ih => simp [changesP, ih]
theorem changesP_append (a b st : List Int) : changesP (a ++ b) st = changesP a st ++ changesP b (st.drop (takenS a)) := by
  induction a generalizing st with
  | nil => simp [changesP, takenS]
  | cons k a ih => simp [changesP, takenS, ih, List.drop_drop]
theorem changesP_take {ks st : List Int} {j : Nat} {k : Int} (h : ks[j]? = some k) : changesP (ks.take (j + 1)) st = changesP (ks.take j) st ++ [changeI k (st.drop (takenS (ks.take j)))] := by
  rw [take_snoc h, changesP_append]; rfl
theorem changesP_at {ks st : List Int} {j : Nat} {k : Int} (h : ks[j]? = some k) : (changesP ks st)[j]? = some (changeI k (st.drop (takenS (ks.take j)))) := by
  have hj := (List.getElem?_eq_some_iff.1 h).1
  have e : ks = ks.take j ++ k :: ks.drop (j + 1) := by rw [← drop_cons h, List.take_append_drop]
  have hl : (changesP (ks.take j) st).length = j := by rw [changesP_length, List.length_take]; omega
  conv => lhs; rw [e, changesP_append]
  rw [List.getElem?_append_right (by omega), hl, Nat.sub_self]
  rfl
theorem changeI_le {k : Int} (hk : isStitchB k = true) {st : List Int} (h : ∀ x ∈ st, inR x 1 4 = true) : -20 ≤ changeI k st ∧ changeI k st ≤ 20 := by
  have h1 := sumI_le (tinyB_made k h)
  have h2 := sumI_le (tinyB_take (tinyB_of h) (takenN k))
  have h3 := stepMade_length hk st
  have h4 := (takenN_le k hk).1
  have h5 : (st.take (takenN k)).length ≤ takenN k := by rw [List.length_take]; omega
  unfold changeI
  omega
def limB : Int → List Int → Bool
  | _, [] => true
  | s, c :: cs => decide (s + c ≤ 12) && limB (s + c) cs
theorem limB_drop {s : Int} {cs : List Int} {i : Nat} {c : Int} (h : cs[i]? = some c) : limB s (cs.drop i) = (decide (s + c ≤ 12) && limB (s + c) (cs.drop (i + 1))) := by rw [drop_cons h, limB]
def ordL (d : Int) (cs : List Int) : List Int := if d = -1 then cs.reverse else cs
def keepB (d : Int) (st ks : List Int) : Bool := limB (sumI st) (ordL d (changesP ks st))
theorem ordL_length (d : Int) (cs : List Int) : (ordL d cs).length = cs.length := by unfold ordL; split <;> simp
theorem ordL_rev {cs : List Int} {i : Nat} (h : i < cs.length) : (ordL (-1) cs)[i]? = cs[cs.length - 1 - i]? := by
  unfold ordL
  rw [if_pos rfl, List.getElem?_reverse h]
theorem ordL_fwd (cs : List Int) : ordL 1 cs = cs := by unfold ordL; rw [if_neg (by decide)]
theorem afterP_seg {ks st : List Int} (hs : ∀ k ∈ ks, isStitchB k = true) {j : Nat} {k : Int} (h : ks[j]? = some k) : ∃ rest, (afterP ks st).drop (madeS (ks.take j)) = stepMade k (st.drop (takenS (ks.take j))) ++ rest := by
  induction ks generalizing st j with
  | nil => simp at h
  | cons q ks ih =>
    cases j with
    | zero =>
      simp at h
      subst h
      exact ⟨afterP ks (st.drop (takenN q)), by simp [madeS, takenS, afterP]⟩
    | succ j =>
      obtain ⟨rest, hr⟩ := ih (st := st.drop (takenN q)) (fun x hx => hs x (by simp [hx])) (by simpa using h)
      refine ⟨rest, ?_⟩
      simp only [List.take_succ_cons, madeS, takenS, afterP]
      rw [List.drop_append, List.drop_eq_nil_of_le (by rw [stepMade_madeN (hs q (by simp))]; omega), stepMade_madeN (hs q (by simp)), show madeN q + madeS (ks.take j) - madeN q = madeS (ks.take j) by omega, hr, List.drop_drop]
      simp
def stepCode (st ks : List Int) : Bool := decide ((stacksAfterP st ks).2 = 0)
/-- The stacks behind each row, and whether each row is knittable. -/
def rowOkB (st : List Int) (r : RowD) : Bool := rowB r.d r.r r.s && stepCode st r.s && keepB r.d st r.s
def stacksFrom : List Int → List RowD → List (List Int)
  | _, [] => []
  | st, r :: rs => (stacksAfterP st r.s).1 :: stacksFrom (stacksAfterP st r.s).1 rs
def rowsOkB : List Int → List RowD → Bool
  | _, [] => true
  | st, r :: rs => rowOkB st r && rowsOkB (stacksAfterP st r.s).1 rs
def chartB (n : Int) (rs : List RowD) : Bool := inR n 1 8 && inR rs.length 1 8 && rowsOkB (List.replicate n.toNat 1) rs
def chartStacks (n : Int) (rs : List RowD) : List (List Int) := if chartB n rs then stacksFrom (List.replicate n.toNat 1) rs else []
theorem stepCode_of {st ks : List Int} (h : stepCode st ks = true) : stacksB st = true ∧ stitchesB ks = true ∧ takenS ks = st.length ∧ (stacksAfterP st ks).1 = afterP ks st ∧ stacksB (afterP ks st) = true := by
  have h := of_decide_eq_true h
  by_cases h1 : stacksB st = true
  · by_cases h2 : stitchesB ks = true
    · by_cases h3 : takenS ks = st.length
      · rw [stacksAfterP_spec h1 h2 h3] at h ⊢
        by_cases h4 : (stacksB (afterP ks st) && !thickP ks st) = true
        · rw [if_pos h4]
          simp only [Bool.and_eq_true] at h4
          exact ⟨h1, h2, h3, rfl, h4.1⟩
        · rw [if_neg h4] at h
          simp at h
      · simp [stacksAfterP, h1, h2, h3] at h
    · simp [stacksAfterP, h2] at h
  · simp [stacksAfterP, h1] at h
theorem stacksFrom_length (st : List Int) (rs : List RowD) : (stacksFrom st rs).length = rs.length := by
  induction rs generalizing st with
  | nil => rfl
  | cons r rs ih => simp [stacksFrom, ih]
theorem stacksFrom_cnt (st : List Int) (rs : List RowD) : cntII (stacksFrom st rs) ≤ 8 * rs.length := by
  induction rs generalizing st with
  | nil => simp [stacksFrom, cntII]
  | cons r rs ih =>
    have h1 := ih (stacksAfterP st r.s).1
    have h2 := stacksAfterP_length st r.s
    simp only [stacksFrom, cntII, List.length_cons]
    omega
theorem chartStacks_size (n : Int) (rs : List RowD) : (chartStacks n rs).length ≤ 8 ∧ cntII (chartStacks n rs) ≤ 64 := by
  unfold chartStacks
  split
  · rename_i h
    unfold chartB at h
    simp only [Bool.and_eq_true] at h
    have h1 := inR_iff.1 h.1.2
    have h2 := stacksFrom_length (List.replicate n.toNat 1) rs
    have h3 := stacksFrom_cnt (List.replicate n.toNat 1) rs
    omega
  · simp [cntII]

end Go.Proofs.YthjamohaeahipaaGreat

/- l15Thin: the given side's limit on strands. -/
namespace Go.Proofs.YthjamohaeahipaaGreat
open Go.RowKit

theorem afterP_len {ks st : List Int} (hs : ∀ k ∈ ks, isStitchB k = true) : (afterP ks st).length = madeS ks := by
  induction ks generalizing st with
  | nil => rfl
  | cons q ks ih => rw [afterP, madeS, List.length_append, stepMade_madeN (hs q (by simp)), ih fun x hx => hs x (by simp [hx])]
theorem madeS_at {ks : List Int} {i : Nat} {k : Int} (h : ks[i]? = some k) : madeS (ks.take i) + madeN k ≤ madeS ks := by
  rw [← madeS_snoc h]
  have := madeS_append (ks.take (i + 1)) (ks.drop (i + 1))
  rw [List.take_append_drop] at this
  omega
theorem drop_getElem {xs : List Int} {f q : Nat} {x : Int} (h : xs[f + q]? = some x) : (xs.drop f)[q]? = some x := by rw [List.getElem?_drop]; exact h

set_option maxHeartbeats 4000000 in
set_option maxRecDepth 20000 in
theorem spec_l15Thin_R (st ks : List Int) (A B C : Option Addr) (c d cc g o : Nat) (w : World) (h : Ints w A st) (h' : Ints w B (afterP ks st)) (hk : Ints w C ks)
    (c0 : w.cell? ⟨g, o, none⟩ = some (.int .i64 1)) (c2 : w.cell? ⟨g, o + 2, none⟩ = some (.slice C ks.length cc)) (hv : stacksB st = true) (hs : stitchesB ks = true) (heq : takenS ks = st.length) :
    Calls Tryz.prog 38 #[.slice A st.length c, .slice B (afterP ks st).length d, .pointer (some ⟨g, o, none⟩)] w fun e w' => e = .returned (.bool (keepB 1 st ks)) ∧ Below w.heap.size w w' := by
  obtain ⟨hl16, hst⟩ := stitchesB_of hs
  obtain ⟨hl8, hr⟩ := stacksB_of hv
  have htt := tinyB_of hr
  have hsum := sumI_le htt
  have hmade := (sums_le hst).2
  have HST := Lib.hid hst
  have HR := Lib.hid hr; clear hr
  have HTT := Lib.hid htt; clear htt
  have hal : (afterP ks st).length = madeS ks := afterP_len hst
  obtain ⟨al, hal'⟩ : ∃ al, al = (afterP ks st).length := ⟨_, rfl⟩
  rw [← hal'] at hal ⊢
  have HAL := Lib.hid (And.intro hal' hal)
  have hal100 : al ≤ 64 := by omega
  clear hal hal' hmade hst
  have HEQ := Lib.hid heq; clear heq
  go_enter Tryz.func38, Tryz.ntmps38
  go_wp2_with (fail)
  go_loopw [7, 8] (fun sv iv wr => ∃ (k : Nat) (s : Int), k ≤ st.length ∧ sv = .int .i64 s ∧ iv = .int .i64 k ∧ Hid (s = sumI (st.take k)) ∧ 0 ≤ s ∧ s ≤ 5 * k ∧ w = wr) (fun _ iv _ => st.length - (intOf iv).toNat)
  case atStart => exact ⟨0, 0, Nat.zero_le _, rfl, rfl, Lib.hid rfl, by omega, by omega, rfl⟩
  case round =>
    obtain ⟨k, s, hk8, rfl, rfl, HS, hs0, hs1, rfl⟩ := hrel
    by_cases hlt : k < st.length
    · obtain ⟨b, off, x, rfl, hc, hx⟩ := h k hlt
      have hx4 := inR_iff.1 (HR.out x (List.mem_of_getElem? hx))
      have HS2 : Hid (s + x = sumI (st.take (k + 1))) := Lib.hid (by rw [sumI_snoc hx, HS.out])
      clear hx
      have j1 : (0 : Int) ≤ (k : Int) := by omega
      have j2 : (k : Int) < (st.length : Int) := by omega
      go_wp2_with (fail)
      go_roundw
      case rel => exact ⟨k + 1, s + x, by omega, by go_num, by go_num, HS2, by omega, by omega, trivial⟩
      case measure => simp [intOf]; omega
    · have hs9 : s = sumI st := by rw [HS.out, take_all (by omega)]
      have HK9 : Hid (keepB 1 st ks = limB s ((ordL 1 (changesP ks st)).drop 0)) := Lib.hid (by rw [hs9]; rfl)
      have hs40 : s ≤ 40 := by omega
      clear hs9 HS hk8 hs1
      have hs1 := hs40; clear hs40
      go_wp2_with (fail)
      go_loopw [7, 10, 11, 12] (fun sv fv tv iv wr => ∃ (k F T : Nat) (s : Int), k ≤ ks.length ∧ sv = .int .i64 s ∧ fv = .int .i64 F ∧ tv = .int .i64 T ∧ iv = .int .i64 k ∧ Hid (F = takenS (ks.take k)) ∧ Hid (T = madeS (ks.take k)) ∧ F ≤ st.length ∧ T ≤ al ∧ Hid (keepB 1 st ks = limB s ((ordL 1 (changesP ks st)).drop k)) ∧ -100 - 20 * (k : Int) ≤ s ∧ s ≤ 100 + 20 * (k : Int) ∧ Below w.heap.size w wr) (fun _ _ _ iv _ => ks.length - (intOf iv).toNat)
      case atStart => exact ⟨0, 0, 0, s, Nat.zero_le _, rfl, rfl, rfl, rfl, Lib.hid rfl, Lib.hid rfl, Nat.zero_le _, Nat.zero_le _, HK9, by omega, by omega, Below.refl _ _⟩
      case round =>
        clear HK9 hs0 hs1
        obtain ⟨k, F, T, s, hkl, rfl, rfl, rfl, rfl, HF, HT, hF8, hT8, HK, hs0, hs1, hb⟩ := hrel
        have hzs := hb.size
        have d0 := cells_below hb _ _ c0
        have d2 := cells_below hb _ _ c2
        by_cases hlt : k < ks.length
        · obtain ⟨b, off, y, rfl, hc, hy⟩ := (hk.below hb) k hlt
          have HY := Lib.hid hy; clear hy
          have hq := HST.out y (List.mem_of_getElem? HY.out)
          have htn := takenN_le y hq
          have HCH : Hid ((ordL 1 (changesP ks st))[k]? = some (changeI y (st.drop F))) := Lib.hid (by rw [ordL_fwd, changesP_at HY.out, HF.out])
          have hFt : F + takenN y ≤ st.length := by have := takenS_at HY.out; rw [← HF.out, HEQ.out] at this; exact this
          have hTt : T + madeN y ≤ al := by have := madeS_at HY.out; rw [← HT.out, ← HAL.out.2] at this; exact this
          have HSEG : Hid (∃ rest, (afterP ks st).drop T = stepMade y (st.drop F) ++ rest) := Lib.hid (by rw [HF.out, HT.out]; exact afterP_seg HST.out HY.out)
          have j1 : (0 : Int) ≤ (k : Int) := by omega
          have j2 : (k : Int) < (ks.length : Int) := by omega
          have HB : Hid (takenB y = takenN y) := Lib.hid (takenB_of hq)
          have HM : Hid (madeB y = madeN y) := Lib.hid (madeB_of hq)
          have hml := stepMade_madeN hq (st.drop F)
          have HML := Lib.hid hml; clear hml
          have HTM : Hid (tinyB (stepMade y (st.drop F))) := Lib.hid (tinyB_made y (fun x hx => HR.out x (List.mem_of_mem_drop hx)))
          clear hq
          go_wp2_with (fail)
          go_loopw [7, 14] (fun sv qv ws => ∃ (q : Nat) (S : Int), q ≤ takenN y ∧ sv = .int .i64 (s - S) ∧ qv = .int .i64 q ∧ Hid (S = sumI ((st.drop F).take q)) ∧ 0 ≤ S ∧ S ≤ 5 * (q : Int) ∧ Below w.heap.size w ws) (fun _ qv _ => takenN y - (intOf qv).toNat)
          case atStart => exact ⟨0, 0, Nat.zero_le _, by simp, rfl, Lib.hid rfl, by omega, by omega, hb⟩
          case round =>
            obtain ⟨q, S, hq4, rfl, rfl, HSS, hS0, hS1, hb3⟩ := hrel
            have hz3 := hb3.size
            by_cases hqt : q < takenN y
            · obtain ⟨b2, off2, x, rfl, hcx, hx⟩ := h (F + q) (by omega)
              have hx4 := inR_iff.1 (HR.out x (List.mem_of_getElem? hx))
              have HS3 : Hid (S + x = sumI ((st.drop F).take (q + 1))) := Lib.hid (by rw [sumI_snoc (drop_getElem hx), HSS.out])
              clear hx
              have i1 : (0 : Int) ≤ (F : Int) + (q : Int) := by omega
              have i2 : (F : Int) + (q : Int) < (st.length : Int) := by omega
              have i3 : IntKind.i64.wrap ((F : Int) + (q : Int)) = (F : Int) + (q : Int) := IntWalk.i64_in _ (by omega)
              have i4 : ((F : Int) + (q : Int)).toNat = F + q := by omega
              go_wp2_with (fail)
              refine (spec_ColumnsTaken _ _).mono ?_; rintro e w7 ⟨rfl, b7⟩
              rw [HB.out]
              have hb7 : Below w.heap.size w w7 := hb3.trans (b7.mono hz3)
              replace hcx := cells_below hb7 _ _ hcx
              go_wp2_with (fail)
              go_roundw
              case rel => exact ⟨q + 1, S + x, by omega, by go_num, by go_num, HS3, by omega, by omega, hb7⟩
              case measure => simp [intOf]; omega
            · obtain rfl : q = takenN y := by omega
              clear hqt hq4
              go_wp2_with (fail)
              refine (spec_ColumnsTaken _ _).mono ?_; rintro e w7 ⟨rfl, b7⟩
              rw [HB.out]
              have hb7 : Below w.heap.size w w7 := hb3.trans (b7.mono hz3)
              have hS20 : S ≤ 20 := by omega
              go_wp2_with (fail)
              go_loopw [7, 15] (fun sv qv ws => ∃ (q : Nat) (S2 : Int), q ≤ madeN y ∧ sv = .int .i64 (s - S + S2) ∧ qv = .int .i64 q ∧ Hid (S2 = sumI ((stepMade y (st.drop F)).take q)) ∧ 0 ≤ S2 ∧ S2 ≤ 5 * (q : Int) ∧ Below w.heap.size w ws) (fun _ qv _ => madeN y - (intOf qv).toNat)
              case atStart => exact ⟨0, 0, Nat.zero_le _, by simp, rfl, Lib.hid rfl, by omega, by omega, hb7⟩
              case round =>
                obtain ⟨q, S2, hq4, rfl, rfl, HS2, hS2, hS3, hb4⟩ := hrel
                have hz4 := hb4.size
                by_cases hqt : q < madeN y
                · obtain ⟨b2, off2, x, rfl, hcx, hx⟩ := h' (T + q) (by rw [← HAL.out.1]; omega)
                  have hxm : (stepMade y (st.drop F))[q]? = some x := by
                    obtain ⟨rest, hrest⟩ := HSEG.out
                    have := drop_getElem hx
                    rw [hrest, List.getElem?_append_left (by rw [HML.out]; exact hqt)] at this
                    exact this
                  have hx5 := HTM.out x (List.mem_of_getElem? hxm)
                  have HS4 : Hid (S2 + x = sumI ((stepMade y (st.drop F)).take (q + 1))) := Lib.hid (by rw [sumI_snoc hxm, HS2.out])
                  clear hx hxm
                  have i1 : (0 : Int) ≤ (T : Int) + (q : Int) := by omega
                  have i2 : (T : Int) + (q : Int) < (al : Int) := by omega
                  have i3 : IntKind.i64.wrap ((T : Int) + (q : Int)) = (T : Int) + (q : Int) := IntWalk.i64_in _ (by omega)
                  have i4 : ((T : Int) + (q : Int)).toNat = T + q := by omega
                  go_wp2_with (fail)
                  refine (spec_ColumnsMade _ _).mono ?_; rintro e w8 ⟨rfl, b8⟩
                  rw [HM.out]
                  have hb8 : Below w.heap.size w w8 := hb4.trans (b8.mono hz4)
                  replace hcx := cells_below hb8 _ _ hcx
                  go_wp2_with (fail)
                  go_roundw
                  case rel => exact ⟨q + 1, S2 + x, by omega, by go_num, by go_num, HS4, by omega, by omega, hb8⟩
                  case measure => simp [intOf]; omega
                · obtain rfl : q = madeN y := by omega
                  clear hqt hq4
                  have HCC : Hid (changeI y (st.drop F) = S2 - S) := Lib.hid (by
                    have hta : (stepMade y (st.drop F)).take (madeN y) = stepMade y (st.drop F) := List.take_of_length_le (by rw [HML.out]; exact Nat.le_refl _)
                    unfold changeI
                    rw [HSS.out, HS2.out, hta])
                  have hS220 : S2 ≤ 20 := by omega
                  have HL : Hid (limB s ((ordL 1 (changesP ks st)).drop k) = (decide (s - S + S2 ≤ 12) && limB (s - S + S2) ((ordL 1 (changesP ks st)).drop (k + 1)))) := Lib.hid (by rw [limB_drop HCH.out, HCC.out, show s + (S2 - S) = s - S + S2 by omega])
                  go_wp2_with (fail)
                  refine (spec_ColumnsMade _ _).mono ?_; rintro e w8 ⟨rfl, b8⟩
                  rw [HM.out]
                  have hb8 : Below w.heap.size w w8 := hb4.trans (b8.mono hz4)
                  have hz8 := hb8.size
                  have d0' := cells_below hb8 _ _ c0
                  by_cases h12 : s - S + S2 ≤ 12
                  · have h12' : decide (12 < s - S + S2) = false := decide_eq_false (by omega)
                    have HK2 : Hid (keepB 1 st ks = limB (s - S + S2) ((ordL 1 (changesP ks st)).drop (k + 1))) := Lib.hid (by rw [HK.out, HL.out, decide_eq_true h12, Bool.true_and])
                    go_wp2_with (fail)
                    refine (spec_ColumnsTaken _ _).mono ?_; rintro e wA ⟨rfl, bA⟩
                    rw [HB.out]
                    go_wp2_with (fail)
                    refine (spec_ColumnsMade _ _).mono ?_; rintro e wB ⟨rfl, bB⟩
                    rw [HM.out]
                    have zA := bA.size
                    have hbB : Below w.heap.size w wB := (hb8.trans (bA.mono hz8)).trans (bB.mono (by omega))
                    go_wp2_with (fail)
                    go_roundw
                    case rel => exact ⟨k + 1, F + takenN y, T + madeN y, s - S + S2, by omega, by go_num, by go_num, by go_num, by go_num, Lib.hid (by rw [takenS_snoc HY.out, HF.out]), Lib.hid (by rw [madeS_snoc HY.out, HT.out]), hFt, hTt, HK2, by omega, by omega, hbB⟩
                    case measure => simp [intOf]; omega
                  · have h12' : decide (12 < s - S + S2) = true := decide_eq_true (by omega)
                    have HK2 : Hid (keepB 1 st ks = false) := Lib.hid (by rw [HK.out, HL.out, decide_eq_false h12, Bool.false_and])
                    go_wp2_with (fail)
                    go_ret
                    exact ⟨ret_bool HK2.out.symm, hb8⟩
        · have HK2 : Hid (keepB 1 st ks = true) := Lib.hid (by rw [HK.out, drop_all (by rw [ordL_length, changesP_length]; omega)]; rfl)
          go_wp2_with (fail)
          go_ret
          exact ⟨ret_bool HK2.out.symm, hb⟩
set_option maxHeartbeats 4000000 in
set_option maxRecDepth 20000 in
theorem spec_l15Thin_L (st ks : List Int) (A B C : Option Addr) (c d cc g o : Nat) (w : World) (h : Ints w A st) (h' : Ints w B (afterP ks st)) (hk : Ints w C ks)
    (c0 : w.cell? ⟨g, o, none⟩ = some (.int .i64 (-1))) (c2 : w.cell? ⟨g, o + 2, none⟩ = some (.slice C ks.length cc)) (hv : stacksB st = true) (hs : stitchesB ks = true) (heq : takenS ks = st.length) :
    Calls Tryz.prog 38 #[.slice A st.length c, .slice B (afterP ks st).length d, .pointer (some ⟨g, o, none⟩)] w fun e w' => e = .returned (.bool (keepB (-1) st ks)) ∧ Below w.heap.size w w' := by
  obtain ⟨hl16, hst⟩ := stitchesB_of hs
  obtain ⟨hl8, hr⟩ := stacksB_of hv
  have htt := tinyB_of hr
  have hsum := sumI_le htt
  have hmade := (sums_le hst).2
  have HST := Lib.hid hst
  have HR := Lib.hid hr; clear hr
  have HTT := Lib.hid htt; clear htt
  have hal : (afterP ks st).length = madeS ks := afterP_len hst
  obtain ⟨al, hal'⟩ : ∃ al, al = (afterP ks st).length := ⟨_, rfl⟩
  rw [← hal'] at hal ⊢
  have HAL := Lib.hid (And.intro hal' hal)
  have hal100 : al ≤ 64 := by omega
  clear hal hal' hmade hst
  have HEQ := Lib.hid heq; clear heq
  go_enter Tryz.func38, Tryz.ntmps38
  go_wp2_with (fail)
  go_loopw [7, 8] (fun sv iv wr => ∃ (k : Nat) (s : Int), k ≤ st.length ∧ sv = .int .i64 s ∧ iv = .int .i64 k ∧ Hid (s = sumI (st.take k)) ∧ 0 ≤ s ∧ s ≤ 5 * k ∧ w = wr) (fun _ iv _ => st.length - (intOf iv).toNat)
  case atStart => exact ⟨0, 0, Nat.zero_le _, rfl, rfl, Lib.hid rfl, by omega, by omega, rfl⟩
  case round =>
    obtain ⟨k, s, hk8, rfl, rfl, HS, hs0, hs1, rfl⟩ := hrel
    by_cases hlt : k < st.length
    · obtain ⟨b, off, x, rfl, hc, hx⟩ := h k hlt
      have hx4 := inR_iff.1 (HR.out x (List.mem_of_getElem? hx))
      have HS2 : Hid (s + x = sumI (st.take (k + 1))) := Lib.hid (by rw [sumI_snoc hx, HS.out])
      clear hx
      have j1 : (0 : Int) ≤ (k : Int) := by omega
      have j2 : (k : Int) < (st.length : Int) := by omega
      go_wp2_with (fail)
      go_roundw
      case rel => exact ⟨k + 1, s + x, by omega, by go_num, by go_num, HS2, by omega, by omega, trivial⟩
      case measure => simp [intOf]; omega
    · have hs9 : s = sumI st := by rw [HS.out, take_all (by omega)]
      have HK9 : Hid (keepB (-1) st ks = limB s ((ordL (-1) (changesP ks st)).drop 0)) := Lib.hid (by rw [hs9]; rfl)
      have hs40 : s ≤ 40 := by omega
      clear hs9 HS hk8 hs1
      have hs1 := hs40; clear hs40
      go_wp2_with (fail)
      go_loopw [7, 10, 11, 12] (fun sv fv tv iv wr => ∃ (k F T : Nat) (s : Int), k ≤ ks.length ∧ sv = .int .i64 s ∧ fv = .int .i64 F ∧ tv = .int .i64 T ∧ iv = .int .i64 k ∧ Hid (F = takenS (ks.take (ks.length - k))) ∧ Hid (T = madeS (ks.take (ks.length - k))) ∧ F ≤ st.length ∧ T ≤ al ∧ Hid (keepB (-1) st ks = limB s ((ordL (-1) (changesP ks st)).drop k)) ∧ -100 - 20 * (k : Int) ≤ s ∧ s ≤ 100 + 20 * (k : Int) ∧ Below w.heap.size w wr) (fun _ _ _ iv _ => ks.length - (intOf iv).toNat)
      case atStart => exact ⟨0, st.length, al, s, Nat.zero_le _, rfl, rfl, rfl, rfl, Lib.hid (by rw [Nat.sub_zero, take_all (Nat.le_refl _), HEQ.out]), Lib.hid (by rw [Nat.sub_zero, take_all (Nat.le_refl _), HAL.out.2]), Nat.le_refl _, Nat.le_refl _, HK9, by omega, by omega, Below.refl _ _⟩
      case round =>
        clear HK9 hs0 hs1
        obtain ⟨k, F, T, s, hkl, rfl, rfl, rfl, rfl, HF, HT, hF8, hT8, HK, hs0, hs1, hb⟩ := hrel
        have hzs := hb.size
        have d0 := cells_below hb _ _ c0
        have d2 := cells_below hb _ _ c2
        by_cases hlt : k < ks.length
        · obtain ⟨j, hj⟩ : ∃ j, ks.length = j + 1 + k := ⟨ks.length - 1 - k, by omega⟩
          have hjl : j < ks.length := by omega
          obtain ⟨b, off, y, rfl, hc, hy⟩ := (hk.below hb) j hjl
          obtain ⟨_, _, y0, hA0, hc0, _⟩ := (hk.below hb) k hlt
          injection hA0 with hA0
          injection hA0 with hA1 hA2
          subst hA1 hA2
          have HY := Lib.hid hy; clear hy
          have hq := HST.out y (List.mem_of_getElem? HY.out)
          have htn := takenN_le y hq
          obtain ⟨F0, hF0⟩ : ∃ F0, F0 = takenS (ks.take j) := ⟨_, rfl⟩
          obtain ⟨T0, hT0⟩ : ∃ T0, T0 = madeS (ks.take j) := ⟨_, rfl⟩
          have hFF : F = F0 + takenN y := by rw [HF.out, show ks.length - k = j + 1 by omega, takenS_snoc HY.out, hF0]
          have hTT : T = T0 + madeN y := by rw [HT.out, show ks.length - k = j + 1 by omega, madeS_snoc HY.out, hT0]
          have HF0 : Hid (F0 = takenS (ks.take j)) := Lib.hid hF0
          have HT0 : Hid (T0 = madeS (ks.take j)) := Lib.hid hT0
          clear hF0 hT0 HF HT
          have HCH : Hid ((ordL (-1) (changesP ks st))[k]? = some (changeI y (st.drop F0))) := Lib.hid (by
            have := ordL_rev (cs := changesP ks st) (i := k) (by rw [changesP_length]; omega)
            rw [this, changesP_length, show ks.length - 1 - k = j by omega, changesP_at HY.out, HF0.out])
          have hFt : F0 + takenN y ≤ st.length := by omega
          have hTt : T0 + madeN y ≤ al := by omega
          have HSEG : Hid (∃ rest, (afterP ks st).drop T0 = stepMade y (st.drop F0) ++ rest) := Lib.hid (by rw [HF0.out, HT0.out]; exact afterP_seg HST.out HY.out)
          have j1 : (0 : Int) ≤ (k : Int) := by omega
          have j2 : (k : Int) < (ks.length : Int) := by omega
          have j3 : IntKind.i64.wrap ((ks.length : Int) - 1) = (ks.length : Int) - 1 := IntWalk.i64_in _ (by omega)
          have j4 : IntKind.i64.wrap ((ks.length : Int) - 1 - (k : Int)) = (j : Int) := by rw [IntWalk.i64_in _ (by omega)]; omega
          have j5 : (0 : Int) ≤ (j : Int) := by omega
          have j6 : (j : Int) < (ks.length : Int) := by omega
          have j7 : IntKind.i64.wrap ((F : Int) - (takenN y : Int)) = (F0 : Int) := by rw [IntWalk.i64_in _ (by omega)]; omega
          have j8 : IntKind.i64.wrap ((T : Int) - (madeN y : Int)) = (T0 : Int) := by rw [IntWalk.i64_in _ (by omega)]; omega
          have HJ := Lib.hid hj; clear hj
          have HFF := Lib.hid hFF; clear hFF
          have HTT' := Lib.hid hTT; clear hTT
          have HB : Hid (takenB y = takenN y) := Lib.hid (takenB_of hq)
          have HM : Hid (madeB y = madeN y) := Lib.hid (madeB_of hq)
          have hml := stepMade_madeN hq (st.drop F0)
          have HML := Lib.hid hml; clear hml
          have HTM : Hid (tinyB (stepMade y (st.drop F0))) := Lib.hid (tinyB_made y (fun x hx => HR.out x (List.mem_of_mem_drop hx)))
          clear hq
          go_wp2_with (fail)
          refine (spec_ColumnsTaken _ _).mono ?_; rintro e w5 ⟨rfl, b5⟩
          rw [HB.out]
          go_wp2_with (fail)
          refine (spec_ColumnsMade _ _).mono ?_; rintro e w6 ⟨rfl, b6⟩
          rw [HM.out]
          have z5 := b5.size
          have z6 := b6.size
          have hb6 : Below w.heap.size w w6 := (hb.trans (b5.mono hzs)).trans (b6.mono (by omega))
          replace d0 := cells_below hb6 _ _ c0
          replace d2 := cells_below hb6 _ _ c2
          clear hc hc0
          go_wp2_with (fail)
          go_loopw [7, 14] (fun sv qv ws => ∃ (q : Nat) (S : Int), q ≤ takenN y ∧ sv = .int .i64 (s - S) ∧ qv = .int .i64 q ∧ Hid (S = sumI ((st.drop F0).take q)) ∧ 0 ≤ S ∧ S ≤ 5 * (q : Int) ∧ Below w.heap.size w ws) (fun _ qv _ => takenN y - (intOf qv).toNat)
          case atStart => exact ⟨0, 0, Nat.zero_le _, by simp, rfl, Lib.hid rfl, by omega, by omega, hb6⟩
          case round =>
            obtain ⟨q, S, hq4, rfl, rfl, HSS, hS0, hS1, hb3⟩ := hrel
            have hz3 := hb3.size
            by_cases hqt : q < takenN y
            · obtain ⟨b2, off2, x, rfl, hcx, hx⟩ := h (F0 + q) (by omega)
              have hx4 := inR_iff.1 (HR.out x (List.mem_of_getElem? hx))
              have HS3 : Hid (S + x = sumI ((st.drop F0).take (q + 1))) := Lib.hid (by rw [sumI_snoc (drop_getElem hx), HSS.out])
              clear hx
              have i1 : (0 : Int) ≤ (F0 : Int) + (q : Int) := by omega
              have i2 : (F0 : Int) + (q : Int) < (st.length : Int) := by omega
              have i3 : IntKind.i64.wrap ((F0 : Int) + (q : Int)) = (F0 : Int) + (q : Int) := IntWalk.i64_in _ (by omega)
              have i4 : ((F0 : Int) + (q : Int)).toNat = F0 + q := by omega
              go_wp2_with (fail)
              refine (spec_ColumnsTaken _ _).mono ?_; rintro e w7 ⟨rfl, b7⟩
              rw [HB.out]
              have hb7 : Below w.heap.size w w7 := hb3.trans (b7.mono hz3)
              replace hcx := cells_below hb7 _ _ hcx
              go_wp2_with (fail)
              go_roundw
              case rel => exact ⟨q + 1, S + x, by omega, by go_num, by go_num, HS3, by omega, by omega, hb7⟩
              case measure => simp [intOf]; omega
            · obtain rfl : q = takenN y := by omega
              clear hqt hq4
              go_wp2_with (fail)
              refine (spec_ColumnsTaken _ _).mono ?_; rintro e w7 ⟨rfl, b7⟩
              rw [HB.out]
              have hb7 : Below w.heap.size w w7 := hb3.trans (b7.mono hz3)
              have hS20 : S ≤ 20 := by omega
              go_wp2_with (fail)
              go_loopw [7, 15] (fun sv qv ws => ∃ (q : Nat) (S2 : Int), q ≤ madeN y ∧ sv = .int .i64 (s - S + S2) ∧ qv = .int .i64 q ∧ Hid (S2 = sumI ((stepMade y (st.drop F0)).take q)) ∧ 0 ≤ S2 ∧ S2 ≤ 5 * (q : Int) ∧ Below w.heap.size w ws) (fun _ qv _ => madeN y - (intOf qv).toNat)
              case atStart => exact ⟨0, 0, Nat.zero_le _, by simp, rfl, Lib.hid rfl, by omega, by omega, hb7⟩
              case round =>
                obtain ⟨q, S2, hq4, rfl, rfl, HS2, hS2, hS3, hb4⟩ := hrel
                have hz4 := hb4.size
                by_cases hqt : q < madeN y
                · obtain ⟨b2, off2, x, rfl, hcx, hx⟩ := h' (T0 + q) (by rw [← HAL.out.1]; omega)
                  have hxm : (stepMade y (st.drop F0))[q]? = some x := by
                    obtain ⟨rest, hrest⟩ := HSEG.out
                    have := drop_getElem hx
                    rw [hrest, List.getElem?_append_left (by rw [HML.out]; exact hqt)] at this
                    exact this
                  have hx5 := HTM.out x (List.mem_of_getElem? hxm)
                  have HS4 : Hid (S2 + x = sumI ((stepMade y (st.drop F0)).take (q + 1))) := Lib.hid (by rw [sumI_snoc hxm, HS2.out])
                  clear hx hxm
                  have i1 : (0 : Int) ≤ (T0 : Int) + (q : Int) := by omega
                  have i2 : (T0 : Int) + (q : Int) < (al : Int) := by omega
                  have i3 : IntKind.i64.wrap ((T0 : Int) + (q : Int)) = (T0 : Int) + (q : Int) := IntWalk.i64_in _ (by omega)
                  have i4 : ((T0 : Int) + (q : Int)).toNat = T0 + q := by omega
                  go_wp2_with (fail)
                  refine (spec_ColumnsMade _ _).mono ?_; rintro e w8 ⟨rfl, b8⟩
                  rw [HM.out]
                  have hb8 : Below w.heap.size w w8 := hb4.trans (b8.mono hz4)
                  replace hcx := cells_below hb8 _ _ hcx
                  go_wp2_with (fail)
                  go_roundw
                  case rel => exact ⟨q + 1, S2 + x, by omega, by go_num, by go_num, HS4, by omega, by omega, hb8⟩
                  case measure => simp [intOf]; omega
                · obtain rfl : q = madeN y := by omega
                  clear hqt hq4
                  have HCC : Hid (changeI y (st.drop F0) = S2 - S) := Lib.hid (by
                    have hta : (stepMade y (st.drop F0)).take (madeN y) = stepMade y (st.drop F0) := List.take_of_length_le (by rw [HML.out]; exact Nat.le_refl _)
                    unfold changeI
                    rw [HSS.out, HS2.out, hta])
                  have hS220 : S2 ≤ 20 := by omega
                  have HL : Hid (limB s ((ordL (-1) (changesP ks st)).drop k) = (decide (s - S + S2 ≤ 12) && limB (s - S + S2) ((ordL (-1) (changesP ks st)).drop (k + 1)))) := Lib.hid (by rw [limB_drop HCH.out, HCC.out, show s + (S2 - S) = s - S + S2 by omega])
                  go_wp2_with (fail)
                  refine (spec_ColumnsMade _ _).mono ?_; rintro e w8 ⟨rfl, b8⟩
                  rw [HM.out]
                  have hb8 : Below w.heap.size w w8 := hb4.trans (b8.mono hz4)
                  have hz8 := hb8.size
                  have d0' := cells_below hb8 _ _ c0
                  by_cases h12 : s - S + S2 ≤ 12
                  · have h12' : decide (12 < s - S + S2) = false := decide_eq_false (by omega)
                    have HK2 : Hid (keepB (-1) st ks = limB (s - S + S2) ((ordL (-1) (changesP ks st)).drop (k + 1))) := Lib.hid (by rw [HK.out, HL.out, decide_eq_true h12, Bool.true_and])
                    go_wp2_with (fail)
                    go_roundw
                    case rel => exact ⟨k + 1, F0, T0, s - S + S2, by omega, by go_num, by go_num, by go_num, by go_num, Lib.hid (by rw [HF0.out, show ks.length - (k + 1) = j by have := HJ.out; omega]), Lib.hid (by rw [HT0.out, show ks.length - (k + 1) = j by have := HJ.out; omega]), by omega, by omega, HK2, by omega, by omega, hb8⟩
                    case measure => simp [intOf]; omega
                  · have h12' : decide (12 < s - S + S2) = true := decide_eq_true (by omega)
                    have HK2 : Hid (keepB (-1) st ks = false) := Lib.hid (by rw [HK.out, HL.out, decide_eq_false h12, Bool.false_and])
                    go_wp2_with (fail)
                    go_ret
                    exact ⟨ret_bool HK2.out.symm, hb8⟩
        · have HK2 : Hid (keepB (-1) st ks = true) := Lib.hid (by rw [HK.out, drop_all (by rw [ordL_length, changesP_length]; omega)]; rfl)
          go_wp2_with (fail)
          go_ret
          exact ⟨ret_bool HK2.out.symm, hb⟩

end Go.Proofs.YthjamohaeahipaaGreat

/- l15Stacks: the stacks of a chart, the given side. -/
namespace Go.Proofs.YthjamohaeahipaaGreat
open Go.RowKit

/-- The list of stacks grows by one. -/
theorem stacks_step {w5 w6 : World} {lo m k : Nat} {A5 A3 : Option Addr} {c5 c3 : Nat} {cs : List Value} {done : List (List Int)} {nx : List Int}
    (ho : OwnC w5 lo m 24 1 A5 k c5 cs) (hc : CellsII w5 lo m cs done) (hx : OwnI w5 m w5.heap.size A3 c3 nx) (hlo : lo ≤ m) (hm : m ≤ w5.heap.size)
    (hg : (w5.alloc (.cells #[.slice A3 nx.length c3] 24)).grownBy w6 (Value.slice A5 k c5).ownBlock) (hz : w5.heap.size < w6.heap.size) :
    OwnI w6 lo w6.heap.size A3 c3 nx ∧ CellsII w6 lo w6.heap.size (cs ++ [.slice A3 nx.length c3]) (done ++ [nx]) := by
  have t3 : (2 : TypeId) ≠ 24 := by decide
  have ho' := ho.alloc (.cells #[.slice A3 nx.length c3] 24)
  have hc' : CellsII (w5.alloc (.cells #[.slice A3 nx.length c3] 24)) lo m cs done := hc.keep fun q _ _ h3 => Below.heap_alloc w5 _ q h3
  have hx6 := (hx.alloc (.cells #[.slice A3 nx.length c3] 24)).grownT ho' t3 hg
  have hc6 := hc'.grownT ho' t3 hg
  exact ⟨hx6.mono hlo (by omega), (hc6.snoc hx6 hlo (by omega)).mono (Nat.le_refl _) (by omega)⟩
def sliceLen : Value → Nat
  | .slice _ n _ => n
  | _ => 0
theorem stacksFrom_drop {st : List Int} {rs : List RowD} {k : Nat} {r : RowD} (h : rs[k]? = some r) : stacksFrom st (rs.drop k) = (stacksAfterP st r.s).1 :: stacksFrom (stacksAfterP st r.s).1 (rs.drop (k + 1)) := by rw [drop_cons h, stacksFrom]
theorem rowsOkB_drop {st : List Int} {rs : List RowD} {k : Nat} {r : RowD} (h : rs[k]? = some r) : rowsOkB st (rs.drop k) = (rowOkB st r && rowsOkB (stacksAfterP st r.s).1 (rs.drop (k + 1))) := by rw [drop_cons h, rowsOkB]
theorem chart_bad {n : Int} {rs : List RowD} (h : chartB n rs = false) : chartStacks n rs = [] ∧ chartB n rs = false := ⟨by rw [chartStacks, if_neg (by rw [h]; decide)], h⟩

theorem spec_l15Thin (dd : Int) (hd : dd = 1 ∨ dd = -1) (st ks : List Int) (A B C : Option Addr) (c d cc g o : Nat) (w : World) (h : Ints w A st) (h' : Ints w B (afterP ks st)) (hk : Ints w C ks)
    (c0 : w.cell? ⟨g, o, none⟩ = some (.int .i64 dd)) (c2 : w.cell? ⟨g, o + 2, none⟩ = some (.slice C ks.length cc)) (hv : stacksB st = true) (hs : stitchesB ks = true) (heq : takenS ks = st.length) :
    Calls Tryz.prog 38 #[.slice A st.length c, .slice B (afterP ks st).length d, .pointer (some ⟨g, o, none⟩)] w fun e w' => e = .returned (.bool (keepB dd st ks)) ∧ Below w.heap.size w w' := by
  rcases hd with rfl | rfl
  · exact spec_l15Thin_R st ks A B C c d cc g o w h h' hk c0 c2 hv hs heq
  · exact spec_l15Thin_L st ks A B C c d cc g o w h h' hk c0 c2 hv hs heq


end Go.Proofs.YthjamohaeahipaaGreat

/- slices.Clone, copyLists, slices.Reverse. -/
namespace Go.Proofs.YthjamohaeahipaaGreat
open Go.RowKit

theorem Ints.news {w : World} {A : Option Addr} {xs : List Int} (h : Ints w A xs) : ∀ j u, (xs.map (Value.int .i64))[j]? = some u → ∃ b off, A = some ⟨b, off, none⟩ ∧ w.cell? ⟨b, off + j, none⟩ = some u := by
  intro j u hu
  have hj := (List.getElem?_eq_some_iff.1 hu).1
  simp at hj
  obtain ⟨b, off, x, hA, hc, hx⟩ := h j hj
  rw [List.getElem?_map, hx] at hu
  simp at hu
  subst hu
  exact ⟨b, off, hA, hc⟩

set_option maxRecDepth 10000 in
theorem slices_Clone (A : Option Addr) (c : Nat) (xs : List Int) (w : World) (h : Ints w A xs) (hl : xs.length ≤ 1048576) :
    Calls Tryz.prog 73 #[.slice A xs.length c] w fun e w' => ∃ A' c', e = .returned (.slice A' xs.length c') ∧ OwnI w' w.heap.size w'.heap.size A' c' xs ∧ Below w.heap.size w w' := by
  obtain ⟨i0, hi0, hz0, hz1, hz2⟩ := info_parts info_int64
  have qn : ∀ (w : World) (a : Option Addr) (n c n' c' : Nat), (binOp .eql 24 (.slice a n c) (.slice none n' c')).run Tryz.prog w = .ok (.bool a.isNone) w := fun w a n c n' c' => Lib.run_eql_slice_nil w _ _ a n c n' c' Tryz.underlying24
  cases A with
  | none =>
    have hx : xs = [] := by
      cases xs with
      | nil => rfl
      | cons x r => obtain ⟨b, off, _, h1, _⟩ := h 0 (by simp); cases h1
    subst hx
    go_enter Tryz.func73, Tryz.ntmps73
    go_wp2_with (fail)
    go_ret
    exact ⟨none, 0, rfl, OwnC.nil _ _ _ _ _, Below.refl _ _⟩
  | some a =>
    have o1 := OwnC.lit (w := w) (lo := w.heap.size) (n := 0) 2 1 #[] (Nat.le_refl _) (Nat.zero_le _) rfl
    have hb1 : Below w.heap.size w (w.alloc (.cells #[] 2)) := by (repeat (first | exact Below.refl _ _ | assumption | apply Below.drew | apply below_drewN | (refine Below.alloc ?_ (by first | omega | (simp; done) | (simp; omega)) _) | (refine Below.setCell ?_ (by first | omega | (simp; done) | (simp; omega)) _)))
    have hn := (h.below hb1).news
    have O1 := Lib.hid o1; clear o1
    have HN := Lib.hid hn; clear hn
    go_enter Tryz.func73, Tryz.ntmps73
    go_wp2_with (at_builtin; refine wpList_appendC (w.alloc (.cells #[] 2)) rfl (.tmp 5) (.tmp 6) _ rfl 2 i0 _ 1 8 Tryz.underlying24 hi0 hz0 hz1 hz2 rfl (by decide) rfl O1.out (by simp) (some a) xs.length c (xs.map (Value.int .i64)) rfl (by simp) HN.out (ints_one _) (by unfold maxLen; omega) (by omega) ?_; intro A5 c5 w5 ho5 hg5 hb5)
    go_ret
    refine ⟨A5, c5, by simp, ?_, hb1.trans hb5⟩
    simpa using ho5

set_option maxHeartbeats 1000000 in
theorem slices_Reverse (A : Option Addr) (c : Nat) (xs : List Int) (lo hi : Nat) (w : World) (h : OwnI w lo hi A c xs) (hl : xs.length ≤ 1048576) :
    Calls Tryz.prog 76 #[.slice A xs.length c] w fun e w' => e = .returned (.tuple #[]) ∧ OwnC w' lo hi 2 1 A xs.length c (xs.reverse.map (Value.int .i64)) ∧ Upd lo hi w w' := by
  go_enter Tryz.func76, Tryz.ntmps76
  go_wp2_with (fail)
  go_loopw [2, 3] (fun iv jv wr => ∃ (i : Nat) (L : List Int), 2 * i ≤ xs.length ∧ iv = .int .i64 i ∧ jv = .int .i64 ((xs.length : Int) - 1 - i) ∧ OwnC wr lo hi 2 1 A xs.length c (L.map (Value.int .i64)) ∧ Hid (L.length = xs.length) ∧ Hid (∀ k, k < xs.length → L[k]? = if k < i ∨ xs.length ≤ k + i then xs[xs.length - 1 - k]? else xs[k]?) ∧ Upd lo hi w wr) (fun _ jv _ => (intOf jv + 1).toNat)
  case atStart => exact ⟨0, xs, by omega, rfl, by simp, h, Lib.hid rfl, Lib.hid (fun k hk => by rw [if_neg (by omega)]), Upd.refl _ _ _⟩
  case round =>
    obtain ⟨i, L, hi2, rfl, rfl, ho, HL, HK, hu⟩ := hrel
    by_cases hlt : 2 * i + 1 < xs.length
    · obtain ⟨j, hj⟩ : ∃ j, xs.length = j + 1 + i := ⟨xs.length - 1 - i, by omega⟩
      have hij : i < j := by omega
      rw [show (xs.length : Int) - 1 - i = j by omega]
      have e1 : L[i]? = some (L[i]'(by rw [HL.out]; omega)) := List.getElem?_eq_getElem _
      have e2 : L[j]? = some (L[j]'(by rw [HL.out]; omega)) := List.getElem?_eq_getElem _
      generalize L[i]'(by rw [HL.out]; omega) = x at e1
      generalize L[j]'(by rw [HL.out]; omega) = y at e2
      obtain ⟨g, rfl, hg1, hg2, q0, f0⟩ := ho.cell (j := i) (by simp [HL.out]; omega)
      obtain ⟨_, hA, _, _, q1, f1⟩ := ho.cell (j := j) (by simp [HL.out]; omega)
      injection hA with hA
      injection hA with hA
      subst hA
      have e3 : (L.map (Value.int .i64))[i]? = some (.int .i64 x) := by simp [e1]
      have e4 : (L.map (Value.int .i64))[j]? = some (.int .i64 y) := by simp [e2]
      rw [List.getElem?_eq_getElem (by simp [HL.out]; omega)] at e3 e4
      injection e3 with e3
      injection e4 with e4
      rw [e3] at q0
      rw [e4] at q1
      have E1 := Lib.hid e1; clear e1
      have E2 := Lib.hid e2; clear e2 e3 e4
      have j1 : (0 : Int) ≤ (i : Int) := by omega
      have j2 : (i : Int) < (xs.length : Int) := by omega
      have j3 : (0 : Int) ≤ (j : Int) := by omega
      have j4 : (j : Int) < (xs.length : Int) := by omega
      have HJ := Lib.hid hj; clear hj
      have hne : i ≠ j := by omega
      have hne2 : j ≠ i := by omega
      have HO := Lib.hid ho; clear ho
      go_wp2_with (fail)
      go_region
      all_goals go_wp2_with (fail)
      all_goals
        have o1 := (HO.out.store (j := i) (.int .i64 y)).1
        have o2 := (o1.store (j := j) (.int .i64 x)).1
        have o3 := OwnC.keep (w' := World.drew ((wr.setCell ⟨g, i, none⟩ (.int .i64 y)).setCell ⟨g, j, none⟩ (.int .i64 x))) o2 fun _ _ _ _ => rfl
        have u2 : Upd lo hi w (World.drew ((wr.setCell ⟨g, i, none⟩ (.int .i64 y)).setCell ⟨g, j, none⟩ (.int .i64 x))) := ((hu.setCell (p := ⟨g, i, none⟩) hg1 hg2 _).setCell (p := ⟨g, j, none⟩) hg1 hg2 _).drewN 1
        refine ⟨⟨i + 1, (L.set i y).set j x, by omega, by go_num, int_eq (by have := HJ.out; push_cast; omega), by simpa [List.map_set] using o3, Lib.hid (by simp [HL.out]), Lib.hid (fun k hk => ?_), u2⟩, by first | (simp [intOf]; done) | (simp [intOf]; omega)⟩
        have hjj := HJ.out
        by_cases hki : k = i
        · subst hki
          rw [List.getElem?_set_ne (by omega), List.getElem?_set_self (by rw [HL.out]; omega), if_pos (by omega), show xs.length - 1 - k = j by omega]
          have := HK.out j (by omega)
          rw [E2.out, if_neg (by omega)] at this
          exact this
        · by_cases hkj : k = j
          · subst hkj
            rw [List.getElem?_set_self (by simp [HL.out]; omega), if_pos (by omega), show xs.length - 1 - k = i by omega]
            have := HK.out i (by omega)
            rw [E1.out, if_neg (by omega)] at this
            exact this
          · rw [List.getElem?_set_ne (by omega), List.getElem?_set_ne (by omega), HK.out k hk]
            by_cases hc : k < i ∨ xs.length ≤ k + i
            · rw [if_pos hc, if_pos (by omega)]
            · rw [if_neg hc, if_neg (by omega)]
    · have hjle : (xs.length : Int) - 1 - i ≤ i := by omega
      go_wp2_with (fail)
      go_end0
      refine ⟨rfl, ?_, hu⟩
      have e : L = xs.reverse := by
        apply List.ext_getElem?
        intro k
        by_cases hk : k < xs.length
        · rw [HK.out k hk, List.getElem?_reverse hk]
          by_cases hc : k < i ∨ xs.length ≤ k + i
          · rw [if_pos hc]
          · rw [if_neg hc, show xs.length - 1 - k = k by omega]
        · rw [List.getElem?_eq_none (by rw [HL.out]; omega), List.getElem?_eq_none (by rw [List.length_reverse]; omega)]
      rw [← e]
      exact ho

end Go.Proofs.YthjamohaeahipaaGreat

/- keepsLimit: the program's limit on strands. -/
namespace Go.Proofs.YthjamohaeahipaaGreat
open Go.RowKit

def iotaI (n : Nat) : List Int := (List.range n).map fun (i : Nat) => (i : Int)
theorem iotaI_length (n : Nat) : (iotaI n).length = n := by simp [iotaI]
theorem iotaI_at {n k : Nat} (h : k < n) : (iotaI n)[k]? = some (k : Int) := by simp [iotaI, h]

theorem sumOf_tiny (A : Option Addr) (c : Nat) (xs : List Int) (w : World) (h : Ints w A xs) (hl : xs.length ≤ 100) (ht : tinyB xs) :
    Calls Tryz.prog 20 #[.slice A xs.length c] w fun e w' => e = .returned (.int .i64 (sumI xs)) ∧ w = w' := by
  have HT := Lib.hid ht; clear ht
  go_enter Tryz.func20, Tryz.ntmps20
  go_wp2_with (fail)
  go_loopw [3, 8] (fun sv iv wr => ∃ (k : Nat) (s : Int), k ≤ xs.length ∧ sv = .int .i64 s ∧ iv = .int .i64 k ∧ Hid (s = sumI (xs.take k)) ∧ 0 ≤ s ∧ s ≤ 5 * (k : Int) ∧ w = wr) (fun _ iv _ => xs.length - (intOf iv).toNat)
  case atStart => exact ⟨0, 0, Nat.zero_le _, rfl, rfl, Lib.hid rfl, by omega, by omega, rfl⟩
  case round =>
    obtain ⟨k, s, hk8, rfl, rfl, HS, hs0, hs1, rfl⟩ := hrel
    by_cases hlt : k < xs.length
    · obtain ⟨b, off, x, rfl, hc, hx⟩ := h k hlt
      have hx4 := HT.out x (List.mem_of_getElem? hx)
      have HS2 : Hid (s + x = sumI (xs.take (k + 1))) := Lib.hid (by rw [sumI_snoc hx, HS.out])
      clear hx
      have j1 : (0 : Int) ≤ (k : Int) := by omega
      have j2 : (k : Int) < (xs.length : Int) := by omega
      go_wp2_with (fail)
      go_roundw
      case rel => exact ⟨k + 1, s + x, by omega, by go_num, by go_num, HS2, by omega, by omega, trivial⟩
      case measure => simp [intOf]; omega
    · have hs9 : s = sumI xs := by rw [HS.out, take_all (by omega)]
      have HS9 := Lib.hid hs9; clear hs9
      go_wp2_with (fail)
      go_ret
      exact ⟨ret_int HS9.out, rfl⟩

theorem impl_identity (n : Nat) (w : World) (hl : n ≤ 1000) :
    Calls Tryz.prog 75 #[.int .i64 n] w fun e w' => ∃ A' c', e = .returned (.slice A' (iotaI n).length c') ∧ OwnI w' w.heap.size w'.heap.size A' c' (iotaI n) ∧ Below w.heap.size w w' := by
  obtain ⟨i0, hi0, hz0, hz1, hz2⟩ := info_parts info_int64
  have hlen : n ≤ 9223372036854775807 := by omega
  go_enter Tryz.func75, Tryz.ntmps75
  go_wp2_with (refine wpList_make_full _ rfl _ _ _ rfl w.heap.size 2 i0 _ 1 Tryz.underlying24 hi0 hz0 hz1 .i64 .i64 _ _ n rfl rfl rfl rfl (by rw [hz2]; omega) (by unfold maxLen; omega) (Nat.le_refl _) ?_; intro w1 hown hg)
  have hb1 : Below w.heap.size w w1 := (Below.refl _ _).grown hg (Nat.le_refl _) (by simp)
  go_loopw [9] (fun i wr => ∃ (k : Nat) (cs : List Value), k ≤ n ∧ i = .int .i64 k ∧ wr.ownsRow w.heap.size 2 1 (.slice (some ⟨w.heap.size, 0, none⟩) n n) n cs ∧ cs.take k = ((iotaI n).take k).map (Value.int .i64) ∧ Below w.heap.size w wr) (fun i _ => n - (intOf i).toNat)
  case atStart => exact ⟨0, _, Nat.zero_le _, rfl, hown, by simp, hb1⟩
  case round =>
    clear hown hg hb1
    obtain ⟨k, cs, hk, rfl, hown, htk, hb⟩ := hrel
    have hcl : cs.length = n := by simpa using hown.1
    have HT := Lib.hid htk; clear htk
    have HC := Lib.hid hcl; clear hcl
    by_cases hlt : k < n
    · have hx := iotaI_at hlt
      have hcell : wr.cell? ⟨w.heap.size, k, none⟩ = some (cs[k]'(by rw [HC.out]; exact hlt)) := by
        rw [hown.cellAt k (by omega), List.getElem?_eq_getElem]
      have hfz := hown.frozenAt k
      have HX := Lib.hid hx; clear hx
      go_wp2
      go_roundw
      case rel =>
        refine ⟨k + 1, cs.set k (.int .i64 k), by omega, by go_num, (hown.stored k _).1, ?_, hb.setCell (p := ⟨w.heap.size, k, none⟩) (Nat.le_refl _) _⟩
        rw [take_set_succ _ _ _ (by rw [HC.out]; exact hlt), HT.out, take_snoc HX.out]
        simp
      case measure => simp [intOf]; omega
    · go_wp2
      go_ret
      have : k = n := by omega
      subst this
      have e : cs = (iotaI k).map (Value.int .i64) := by
        have := HT.out
        rwa [take_all (by rw [HC.out]; exact Nat.le_refl _), take_all (by rw [iotaI_length]; exact Nat.le_refl _)] at this
      subst e
      refine ⟨some ⟨w.heap.size, 0, none⟩, k, by rw [iotaI_length]; rfl, ?_, hb⟩
      show OwnC _ _ _ _ _ _ _ _ _
      rw [iotaI_length]
      exact OwnC.of_own hown (Nat.le_refl _)

theorem impl_order (d r : Int) (ks : List Int) (A : Option Addr) (c : Nat) (w : World) (hl : ks.length ≤ 1000) :
    Calls Tryz.prog 49 #[.agg #[.int .i64 d, .int .i64 r, .slice A ks.length c]] w fun e w' => ∃ A' c', e = .returned (.slice A' (ordL d (iotaI ks.length)).length c') ∧ OwnI w' w.heap.size w'.heap.size A' c' (ordL d (iotaI ks.length)) ∧ Below w.heap.size w w' := by
  have hb1 : Below w.heap.size w (w.alloc (.cells #[.int .i64 d, .int .i64 r, .slice A ks.length c] 26)) := by (repeat (first | exact Below.refl _ _ | assumption | apply Below.drew | apply below_drewN | (refine Below.alloc ?_ (by first | omega | (simp; done) | (simp; omega)) _) | (refine Below.setCell ?_ (by first | omega | (simp; done) | (simp; omega)) _)))
  have kb := Blk.new w 26 #[.int .i64 d, .int .i64 r, .slice A ks.length c]
  obtain ⟨u0, u1, u2⟩ := kb.c3
  go_enter Tryz.func49, Tryz.ntmps49
  go_wp2_with (fail)
  refine (impl_identity ks.length _ hl).mono ?_; rintro e w2 ⟨A2, c2, rfl, o2, b2⟩
  simp only [World.size_alloc] at b2 o2
  obtain ⟨v0, v1, v2⟩ := (kb.below b2 (by omega)).c3
  have hb2 : Below w.heap.size w w2 := hb1.trans (b2.mono (by omega))
  clear u0 u1 u2
  have z2 := b2.size
  simp only [World.size_alloc] at z2
  by_cases hd : d = -1
  · subst hd
    have HF : Hid (ordL (-1) (iotaI ks.length) = (iotaI ks.length).reverse) := Lib.hid rfl
    go_wp2_with (fail)
    refine (slices_Reverse A2 c2 (iotaI ks.length) _ _ _ o2 (by rw [iotaI_length]; omega)).mono ?_; rintro e w3 ⟨rfl, o3, u3⟩
    go_wp2_with (fail)
    go_ret
    rw [HF.out]
    refine ⟨A2, c2, by rw [List.length_reverse]; rfl, ?_, hb2.trans ((u3.below (by omega)).mono (by omega))⟩
    show OwnC _ _ _ _ _ _ _ _ _
    rw [List.length_reverse]
    exact o3.mono (by omega) u3.size
  · have hd' : (d == -1) = false := by simp [hd]
    have HF : Hid (ordL d (iotaI ks.length) = iotaI ks.length) := Lib.hid (by rw [ordL, if_neg hd])
    go_wp2_with (fail)
    go_ret
    rw [HF.out]
    exact ⟨A2, c2, rfl, o2.mono (by omega) (Nat.le_refl _), hb2⟩

end Go.Proofs.YthjamohaeahipaaGreat
