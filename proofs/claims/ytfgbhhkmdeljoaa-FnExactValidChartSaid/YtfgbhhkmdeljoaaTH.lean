/- Charts: the plain functions of a chart's stacks and of the limit on strands. -/
import Derived.Test.YtfgbhhkmdeljoaaSB
import Derived.Test.YtfgbhhkmdeljoaaCB
namespace Go.Proofs.Ytfgbhhkmdeljoaa
open Go.RowKit

def sumI : List Int → Int
  | [] => 0
  | x :: xs => x + sumI xs
theorem sumI_append (a b : List Int) : sumI (a ++ b) = sumI a + sumI b := by
  induction a with
  | nil => simp [sumI]
  | cons x r ih => simp [sumI, ih]; omega
theorem sumI_snoc {xs : List Int} {i : Nat} {x : Int} (h : xs[i]? = some x) : sumI (xs.take (i + 1)) = sumI (xs.take i) + x := by
  rw [take_snoc h, sumI_append]; simp [sumI]
def tinyB (xs : List Int) : Prop := ∀ x ∈ xs, 0 ≤ x ∧ x ≤ 5
theorem sumI_le {xs : List Int} (h : tinyB xs) : 0 ≤ sumI xs ∧ sumI xs ≤ 5 * xs.length := by
  induction xs with
  | nil => simp [sumI]
  | cons x r ih =>
    have h1 := h x (by simp)
    have h2 := ih fun y hy => h y (by simp [hy])
    simp only [sumI, List.length_cons]
    omega
theorem tinyB_take {xs : List Int} (h : tinyB xs) (k : Nat) : tinyB (xs.take k) := fun y hy => h y (List.mem_of_mem_take hy)
theorem tinyB_drop {xs : List Int} (h : tinyB xs) (k : Nat) : tinyB (xs.drop k) := fun y hy => h y (List.mem_of_mem_drop hy)
theorem tinyB_of {st : List Int} (h : ∀ x ∈ st, inR x 1 4 = true) : tinyB st := fun y hy => by have := inR_iff.1 (h y hy); omega
theorem tinyB_made (k : Int) {st : List Int} (h : ∀ x ∈ st, inR x 1 4 = true) : tinyB (stepMade k st) := by
  have h0 : 0 ≤ st0 st ∧ st0 st ≤ 4 := by
    unfold st0
    cases e : st[0]? with
    | none => simp
    | some x => have := inR_iff.1 (h x (List.mem_of_getElem? e)); simp; omega
  intro y hy
  unfold stepMade at hy
  split at hy
  · simp at hy
    have hw : wrap64 (st0 st + 1) = st0 st + 1 := IntWalk.wrap64_in _ ⟨by omega, by omega⟩
    omega
  · split at hy
    · simp at hy; omega
    · have := (List.mem_replicate.1 hy).2; omega
theorem stepMade_madeN {k : Int} (hk : isStitchB k = true) (st : List Int) : (stepMade k st).length = madeN k := by
  unfold stepMade
  rcases stitch_cases hk with rfl | rfl | rfl | rfl | rfl | rfl | rfl | rfl | rfl | rfl | rfl <;> simp <;> rfl
def changeI (k : Int) (st : List Int) : Int := sumI (stepMade k st) - sumI (st.take (takenN k))
def changesP : List Int → List Int → List Int
  | [], _ => []
  | k :: ks, st => changeI k st :: changesP ks (st.drop (takenN k))
theorem changesP_length (ks st : List Int) : (changesP ks st).length = ks.length := by
  induction ks generalizing st with
  | nil => rfl
  | cons k ks ih => simp [changesP, ih]
theorem changesP_append (a b st : List Int) : changesP (a ++ b) st = changesP a st ++ changesP b (st.drop (takenS a)) := by
  induction a generalizing st with
  | nil => simp [changesP, takenS]
  | cons k a ih => simp [changesP, takenS, ih, List.drop_drop]
theorem changesP_take {ks st : List Int} {j : Nat} {k : Int} (h : ks[j]? = some k) : changesP (ks.take (j + 1)) st = changesP (ks.take j) st ++ [changeI k (st.drop (takenS (ks.take j)))] := by
  rw [take_snoc h, changesP_append]; rfl
theorem changesP_at {ks st : List Int} {j : Nat} {k : Int} (h : ks[j]? = some k) : (changesP ks st)[j]? = some (changeI k (st.drop (takenS (ks.take j)))) := by
  have hj := (List.getElem?_eq_some_iff.1 h).1
  have e : ks = ks.take j ++ k :: ks.drop (j + 1) := by rw [← drop_cons h, List.take_append_drop]
  have hl : (changesP (ks.take j) st).length = j := by rw [changesP_length, List.length_take]; omega
  conv => lhs; rw [e, changesP_append]
  rw [List.getElem?_append_right (by omega), hl, Nat.sub_self]
  rfl
theorem changeI_le {k : Int} (hk : isStitchB k = true) {st : List Int} (h : ∀ x ∈ st, inR x 1 4 = true) : -20 ≤ changeI k st ∧ changeI k st ≤ 20 := by
  have h1 := sumI_le (tinyB_made k h)
  have h2 := sumI_le (tinyB_take (tinyB_of h) (takenN k))
  have h3 := stepMade_length hk st
  have h4 := (takenN_le k hk).1
  have h5 : (st.take (takenN k)).length ≤ takenN k := by rw [List.length_take]; omega
  unfold changeI
  omega
def limB : Int → List Int → Bool
  | _, [] => true
  | s, c :: cs => decide (s + c ≤ 12) && limB (s + c) cs
theorem limB_drop {s : Int} {cs : List Int} {i : Nat} {c : Int} (h : cs[i]? = some c) : limB s (cs.drop i) = (decide (s + c ≤ 12) && limB (s + c) (cs.drop (i + 1))) := by rw [drop_cons h, limB]
def ordL (d : Int) (cs : List Int) : List Int := if d = -1 then cs.reverse else cs
def keepB (d : Int) (st ks : List Int) : Bool := limB (sumI st) (ordL d (changesP ks st))
theorem ordL_length (d : Int) (cs : List Int) : (ordL d cs).length = cs.length := by unfold ordL; split <;> simp
theorem ordL_rev {cs : List Int} {i : Nat} (h : i < cs.length) : (ordL (-1) cs)[i]? = cs[cs.length - 1 - i]? := by
  unfold ordL
  rw [if_pos rfl, List.getElem?_reverse h]
theorem ordL_fwd (cs : List Int) : ordL 1 cs = cs := by unfold ordL; rw [if_neg (by decide)]
theorem afterP_seg {ks st : List Int} (hs : ∀ k ∈ ks, isStitchB k = true) {j : Nat} {k : Int} (h : ks[j]? = some k) : ∃ rest, (afterP ks st).drop (madeS (ks.take j)) = stepMade k (st.drop (takenS (ks.take j))) ++ rest := by
  induction ks generalizing st j with
  | nil => simp at h
  | cons q ks ih =>
    cases j with
    | zero =>
      simp at h
      subst h
      exact ⟨afterP ks (st.drop (takenN q)), by simp [madeS, takenS, afterP]⟩
    | succ j =>
      obtain ⟨rest, hr⟩ := ih (st := st.drop (takenN q)) (fun x hx => hs x (by simp [hx])) (by simpa using h)
      refine ⟨rest, ?_⟩
      simp only [List.take_succ_cons, madeS, takenS, afterP]
      rw [List.drop_append, List.drop_eq_nil_of_le (by rw [stepMade_madeN (hs q (by simp))]; omega), stepMade_madeN (hs q (by simp)), show madeN q + madeS (ks.take j) - madeN q = madeS (ks.take j) by omega, hr, List.drop_drop]
      simp
def stepCode (st ks : List Int) : Bool := decide ((stacksAfterP st ks).2 = 0)
/-- The stacks behind each row, and whether each row is knittable. -/
def rowOkB (st : List Int) (r : RowD) : Bool := rowB r.d r.r r.s && stepCode st r.s && keepB r.d st r.s
def stacksFrom : List Int → List RowD → List (List Int)
  | _, [] => []
  | st, r :: rs => (stacksAfterP st r.s).1 :: stacksFrom (stacksAfterP st r.s).1 rs
def rowsOkB : List Int → List RowD → Bool
  | _, [] => true
  | st, r :: rs => rowOkB st r && rowsOkB (stacksAfterP st r.s).1 rs
def chartB (n : Int) (rs : List RowD) : Bool := inR n 1 8 && inR rs.length 1 8 && rowsOkB (List.replicate n.toNat 1) rs
def chartStacks (n : Int) (rs : List RowD) : List (List Int) := if chartB n rs then stacksFrom (List.replicate n.toNat 1) rs else []
theorem stepCode_of {st ks : List Int} (h : stepCode st ks = true) : stacksB st = true ∧ stitchesB ks = true ∧ takenS ks = st.length ∧ (stacksAfterP st ks).1 = afterP ks st ∧ stacksB (afterP ks st) = true := by
  have h := of_decide_eq_true h
  by_cases h1 : stacksB st = true
  · by_cases h2 : stitchesB ks = true
    · by_cases h3 : takenS ks = st.length
      · rw [stacksAfterP_spec h1 h2 h3] at h ⊢
        by_cases h4 : (stacksB (afterP ks st) && !thickP ks st) = true
        · rw [if_pos h4]
          simp only [Bool.and_eq_true] at h4
          exact ⟨h1, h2, h3, rfl, h4.1⟩
        · rw [if_neg h4] at h
          simp at h
      · simp [stacksAfterP, h1, h2, h3] at h
    · simp [stacksAfterP, h2] at h
  · simp [stacksAfterP, h1] at h
theorem stacksFrom_length (st : List Int) (rs : List RowD) : (stacksFrom st rs).length = rs.length := by
  induction rs generalizing st with
  | nil => rfl
  | cons r rs ih => simp [stacksFrom, ih]
theorem stacksFrom_cnt (st : List Int) (rs : List RowD) : cntII (stacksFrom st rs) ≤ 8 * rs.length := by
  induction rs generalizing st with
  | nil => simp [stacksFrom, cntII]
  | cons r rs ih =>
    have h1 := ih (stacksAfterP st r.s).1
    have h2 := stacksAfterP_length st r.s
    simp only [stacksFrom, cntII, List.length_cons]
    omega
theorem chartStacks_size (n : Int) (rs : List RowD) : (chartStacks n rs).length ≤ 8 ∧ cntII (chartStacks n rs) ≤ 64 := by
  unfold chartStacks
  split
  · rename_i h
    unfold chartB at h
    simp only [Bool.and_eq_true] at h
    have h1 := inR_iff.1 h.1.2
    have h2 := stacksFrom_length (List.replicate n.toNat 1) rs
    have h3 := stacksFrom_cnt (List.replicate n.toNat 1) rs
    omega
  · simp [cntII]

end Go.Proofs.Ytfgbhhkmdeljoaa
