/- Rows of stitches and stacks: the plain functions. -/
import Derived.Test.YtfgbhhkmdeljoaaA
namespace Go.Proofs.Ytfgbhhkmdeljoaa
open Go.RowKit

def takenN (k : Int) : Nat := ([1, 1, 0, 2, 2, 1, 1, 2, 2, 4, 4] : List Nat)[(k - 1).toNat]?.getD 0
def madeN (k : Int) : Nat := ([1, 1, 1, 1, 1, 1, 1, 2, 2, 4, 4] : List Nat)[(k - 1).toNat]?.getD 0
def takenB (k : Int) : Int := if isStitchB k then takenN k else -1
def madeB (k : Int) : Int := if isStitchB k then madeN k else -1
def takenS : List Int → Nat
  | [] => 0
  | k :: ks => takenN k + takenS ks
def madeS : List Int → Nat
  | [] => 0
  | k :: ks => madeN k + madeS ks
def takenP (ks : List Int) : Int := if stitchesB ks then takenS ks else -1
def madeP (ks : List Int) : Int := if stitchesB ks then madeS ks else -1
def st0 (st : List Int) : Int := st[0]?.getD 0
def st1 (st : List Int) : Int := st[1]?.getD 0
def stepMade (k : Int) (st : List Int) : List Int := if k = 6 then [wrap64 (st0 st + 1)] else if k = 7 then [st0 st] else List.replicate (madeN k) 1
def stepOk (k : Int) (st : List Int) : Bool := if k = 6 then decide (st0 st < 4) else if k = 4 ∨ k = 5 then decide (st0 st + st1 st ≤ 4) else true
def stepThick (k : Int) (st : List Int) : Bool := decide (k = 4 ∨ k = 5) && decide (4 < st0 st + st1 st)
def afterP : List Int → List Int → List Int
  | [], _ => []
  | k :: ks, st => stepMade k st ++ afterP ks (st.drop (takenN k))
def okAfter : List Int → List Int → Bool
  | [], _ => true
  | k :: ks, st => stepOk k st && okAfter ks (st.drop (takenN k))
def thickP : List Int → List Int → Bool
  | [], _ => false
  | k :: ks, st => stepThick k st || thickP ks (st.drop (takenN k))
def stacksAfterP (st ks : List Int) : List Int × Int :=
  if stacksB st && stitchesB ks then (if takenS ks = st.length then (if okAfter ks st && decide ((afterP ks st).length ≤ 8) then (afterP ks st, 0) else ([], 5)) else ([], 10)) else ([], 1)

theorem takenS_append (a b : List Int) : takenS (a ++ b) = takenS a + takenS b := by
  induction a with
  | nil => simp [takenS]
  | cons x r ih => simp [takenS, ih]; omega
theorem madeS_append (a b : List Int) : madeS (a ++ b) = madeS a + madeS b := by
  induction a with
  | nil => simp [madeS]
  | cons x r ih => simp [madeS, ih]; omega
theorem takenS_snoc {ks : List Int} {i : Nat} {k : Int} (h : ks[i]? = some k) : takenS (ks.take (i + 1)) = takenS (ks.take i) + takenN k := by
  rw [take_snoc h, takenS_append]; simp [takenS]
theorem madeS_snoc {ks : List Int} {i : Nat} {k : Int} (h : ks[i]? = some k) : madeS (ks.take (i + 1)) = madeS (ks.take i) + madeN k := by
  rw [take_snoc h, madeS_append]; simp [madeS]
theorem takenS_take_le (ks : List Int) (i : Nat) : takenS (ks.take i) ≤ takenS ks := by
  have := takenS_append (ks.take i) (ks.drop i)
  rw [List.take_append_drop] at this
  omega
theorem takenS_at {ks : List Int} {i : Nat} {k : Int} (h : ks[i]? = some k) : takenS (ks.take i) + takenN k ≤ takenS ks := by
  rw [← takenS_snoc h]; exact takenS_take_le _ _
theorem stitch_cases {k : Int} (h : isStitchB k = true) : k = 1 ∨ k = 2 ∨ k = 3 ∨ k = 4 ∨ k = 5 ∨ k = 6 ∨ k = 7 ∨ k = 8 ∨ k = 9 ∨ k = 10 ∨ k = 11 := by
  obtain ⟨h1, h2⟩ := inR_iff.1 h
  omega
theorem takenN_le (k : Int) (h : isStitchB k = true) : takenN k ≤ 4 ∧ madeN k ≤ 4 ∧ 1 ≤ madeN k := by
  rcases stitch_cases h with rfl | rfl | rfl | rfl | rfl | rfl | rfl | rfl | rfl | rfl | rfl <;> decide
theorem stitchesB_of {ks : List Int} (h : stitchesB ks = true) : ks.length ≤ 16 ∧ ∀ k ∈ ks, isStitchB k = true := by
  unfold stitchesB at h
  simp only [Bool.and_eq_true, List.all_eq_true, decide_eq_true_eq] at h
  exact ⟨h.2, h.1⟩
theorem sums_le {ks : List Int} (h : ∀ k ∈ ks, isStitchB k = true) : takenS ks ≤ 4 * ks.length ∧ madeS ks ≤ 4 * ks.length := by
  induction ks with
  | nil => simp [takenS, madeS]
  | cons k ks ih =>
    have h1 := takenN_le k (h k (by simp))
    have h2 := ih fun x hx => h x (by simp [hx])
    simp [takenS, madeS]
    omega
theorem afterP_length_le {ks : List Int} (h : ∀ k ∈ ks, isStitchB k = true) (st : List Int) : (afterP ks st).length ≤ 4 * ks.length := by
  induction ks generalizing st with
  | nil => simp [afterP]
  | cons k ks ih =>
    have h1 := takenN_le k (h k (by simp))
    have h2 := ih (fun x hx => h x (by simp [hx])) (st.drop (takenN k))
    have h3 : (stepMade k st).length ≤ 4 := by
      unfold stepMade
      split
      · simp
      · split
        · simp
        · simp; omega
    simp [afterP]
    omega
theorem decide_lt_le (a b : Int) : decide (a < b) = !decide (b ≤ a) := by
  apply Bool.eq_iff_iff.2; simp
theorem stacks_after {ks : List Int} (h : ∀ k ∈ ks, isStitchB k = true) (st : List Int) (hs : ∀ x ∈ st, inR x 1 4 = true) (hl : takenS ks ≤ st.length) :
    ((afterP ks st).all (inR · 1 4) && !thickP ks st) = okAfter ks st := by
  induction ks generalizing st with
  | nil => rfl
  | cons k ks ih =>
    simp only [takenS] at hl
    have ih' := ih (fun x hx => h x (by simp [hx])) (st.drop (takenN k)) (fun x hx => hs x (List.mem_of_mem_drop hx)) (by rw [List.length_drop]; omega)
    have hk := h k (by simp)
    have key : ((stepMade k st).all (inR · 1 4) && !stepThick k st) = stepOk k st := by
      have at0 : 1 ≤ takenN k → 1 ≤ st0 st ∧ st0 st ≤ 4 := by
        intro h1
        have : 0 < st.length := by omega
        have e : st[0]? = some st[0] := List.getElem?_eq_getElem this
        have := inR_iff.1 (hs _ (List.mem_of_getElem? e))
        unfold st0
        rw [e]
        exact this
      rcases stitch_cases hk with rfl | rfl | rfl | rfl | rfl | rfl | rfl | rfl | rfl | rfl | rfl
      case inr.inr.inr.inr.inr.inl =>
        obtain ⟨h1, h2⟩ := at0 (by decide)
        have hw : wrap64 (st0 st + 1) = st0 st + 1 := IntWalk.wrap64_in _ ⟨by omega, by omega⟩
        simp [stepMade, stepThick, stepOk, hw, inR]
        apply Bool.eq_iff_iff.2
        simp
        omega
      case inr.inr.inr.inr.inr.inr.inl =>
        obtain ⟨h1, h2⟩ := at0 (by decide)
        simp [stepMade, stepThick, stepOk, inR, h1, h2]
      case inr.inr.inr.inl =>
        simp [stepMade, stepThick, stepOk, inR, madeN]
        exact decide_lt_le _ _
      case inr.inr.inr.inr.inl =>
        simp [stepMade, stepThick, stepOk, inR, madeN]
        exact decide_lt_le _ _
      all_goals simp [stepMade, stepThick, stepOk, inR, madeN]
    rw [afterP, okAfter, thickP, List.all_append, ← ih', ← key]
    cases (stepMade k st).all (inR · 1 4) <;> cases stepThick k st <;> cases (afterP ks (st.drop (takenN k))).all (inR · 1 4) <;> cases thickP ks (st.drop (takenN k)) <;> rfl
theorem stacksB_of {st : List Int} (h : stacksB st = true) : st.length ≤ 8 ∧ ∀ x ∈ st, inR x 1 4 = true := by
  unfold stacksB at h
  simp only [Bool.and_eq_true, List.all_eq_true, decide_eq_true_eq] at h
  exact ⟨h.2, h.1⟩
theorem stacksAfterP_spec {st ks : List Int} (h1 : stacksB st = true) (h2 : stitchesB ks = true) (h3 : takenS ks = st.length) :
    stacksAfterP st ks = if stacksB (afterP ks st) && !thickP ks st then (afterP ks st, 0) else ([], 5) := by
  have h := stacks_after (stitchesB_of h2).2 st (stacksB_of h1).2 (by omega)
  unfold stacksAfterP
  rw [h1, h2]
  simp only [Bool.and_true, if_true, h3]
  rw [← h]
  have : (stacksB (afterP ks st) && !thickP ks st) = (((afterP ks st).all (inR · 1 4) && !thickP ks st) && decide ((afterP ks st).length ≤ 8)) := by
    unfold stacksB
    cases (afterP ks st).all (inR · 1 4) <;> cases thickP ks st <;> simp
  rw [this]
theorem stacksAfterP_length (st ks : List Int) : (stacksAfterP st ks).1.length ≤ 8 := by
  unfold stacksAfterP
  split
  · split
    · split
      · rename_i h
        simp only [Bool.and_eq_true, decide_eq_true_eq] at h
        exact h.2
      · simp
    · simp
  · simp
theorem takenB_of {k : Int} (h : isStitchB k = true) : takenB k = takenN k := by rw [takenB, if_pos h]
theorem madeB_of {k : Int} (h : isStitchB k = true) : madeB k = madeN k := by rw [madeB, if_pos h]
/-- The letters of a stitch on columns from c on. -/
def stLetters (k c : Int) : List Int :=
  if k = 8 then [c + 1] else if k = 9 ∨ k = 5 then [-c - 1] else if k = 10 then [c + 2, c + 1, c + 3, c + 2] else if k = 11 then [-c - 2, -c - 1, -c - 3, -c - 2] else []
def lettersFrom : List Int → Int → List Int
  | [], _ => []
  | k :: ks, c => stLetters k c ++ lettersFrom ks (c + takenN k)
def laidB (ks : List Int) : Bool := inR (takenP ks) 1 8 && inR (madeP ks) 1 8
def rowCodeP (d r : Int) (ks : List Int) : Int := if rowB d r ks then (if laidB ks then 0 else 10) else 1
def rowLettersP (d r : Int) (ks : List Int) : List Int := if rowCodeP d r ks = 0 then lettersFrom ks 0 else []
theorem stLetters_length (k c : Int) : (stLetters k c).length ≤ 4 := by
  unfold stLetters
  split <;> (try split) <;> (try split) <;> (try split) <;> simp
theorem lettersFrom_length (ks : List Int) (c : Int) : (lettersFrom ks c).length ≤ 4 * ks.length := by
  induction ks generalizing c with
  | nil => simp [lettersFrom]
  | cons k ks ih =>
    have := ih (c + takenN k)
    have := stLetters_length k c
    simp [lettersFrom]
    omega
theorem rowLettersP_length (d r : Int) (ks : List Int) : (rowLettersP d r ks).length ≤ 64 := by
  unfold rowLettersP
  split
  · rename_i h
    have hs : stitchesB ks = true := by
      by_cases e : rowB d r ks = true
      · unfold rowB at e; simp only [Bool.and_eq_true] at e; exact e.2
      · rw [rowCodeP, if_neg e] at h; simp at h
    have := (stitchesB_of hs).1
    have := lettersFrom_length ks 0
    omega
  · simp

end Go.Proofs.Ytfgbhhkmdeljoaa
