/- Steps of the proof, joined from several texts: GM RC XH. -/
import Derived.Test.YtnjgmhdmjaijgaaGreatDoorZ8
import Derived.Test.YtnjgmhdmjaijgaaGreatDoorZ6
import Derived.Test.YtnjgmhdmjaijgaaGreatDoorZ9
import Derived.Test.YtnjgmhdmjaijgaaGreatDoorZ10

/- The mirror image of rows of stitches and of charts, plain. -/
namespace Go.Proofs.YtnjgmhdmjaijgaaGreatDoor
open Go.RowKit

theorem step_pre {k : Int} (hk : isStitchB k = true) {x : List Int} (y : List Int) (h : takenN k ≤ x.length) : stepMade k (x ++ y) = stepMade k x ∧ stepOk k (x ++ y) = stepOk k x := by
  obtain ⟨a1, a2⟩ := step_take hk (x ++ y)
  obtain ⟨b1, b2⟩ := step_take hk x
  rw [List.take_append_of_le_length h] at a1 a2
  exact ⟨a1.symm.trans b1, a2.symm.trans b2⟩
theorem after_pre {ks : List Int} (hs : ∀ k ∈ ks, isStitchB k = true) {x : List Int} (y : List Int) (h : takenS ks ≤ x.length) : afterP ks (x ++ y) = afterP ks x ∧ okAfter ks (x ++ y) = okAfter ks x ∧ changesP ks (x ++ y) = changesP ks x := by
  induction ks generalizing x with
  | nil => exact ⟨rfl, rfl, rfl⟩
  | cons k ks ih =>
    have hk := hs k (by simp)
    rw [takenS] at h
    obtain ⟨e1, e2⟩ := step_pre hk y (show takenN k ≤ x.length by omega)
    obtain ⟨i1, i2, i3⟩ := ih (fun q hq => hs q (by simp [hq])) (x := x.drop (takenN k)) (by rw [List.length_drop]; omega)
    have ed : (x ++ y).drop (takenN k) = x.drop (takenN k) ++ y := List.drop_append_of_le_length (by omega)
    refine ⟨?_, ?_, ?_⟩
    · rw [afterP, afterP, ed, i1, e1]
    · rw [okAfter, okAfter, ed, i2, e2]
    · rw [changesP, changesP, ed, i3, changeI, changeI, e1, List.take_append_of_le_length (by omega)]
theorem after_app (a b st : List Int) : afterP (a ++ b) st = afterP a st ++ afterP b (st.drop (takenS a)) ∧ okAfter (a ++ b) st = (okAfter a st && okAfter b (st.drop (takenS a))) := by
  induction a generalizing st with
  | nil => simp [afterP, okAfter, takenS]
  | cons k a ih =>
    obtain ⟨i1, i2⟩ := ih (st.drop (takenN k))
    rw [List.cons_append, afterP, afterP, okAfter, okAfter, takenS, i1, i2, List.drop_drop, List.append_assoc, Bool.and_assoc]
    exact ⟨rfl, rfl⟩
theorem mirK_facts {k : Int} (h : isStitchB k = true) : isStitchB (mirK k) = true ∧ mirK (mirK k) = k ∧ takenN (mirK k) = takenN k ∧ madeN (mirK k) = madeN k := by
  rcases stitch_cases h with rfl | rfl | rfl | rfl | rfl | rfl | rfl | rfl | rfl | rfl | rfl <;> decide
def mirS (ks : List Int) : List Int := ks.reverse.map mirK
theorem mirS_cons (k : Int) (ks : List Int) : mirS (k :: ks) = mirS ks ++ [mirK k] := by simp [mirS]
theorem mirS_mem {ks : List Int} (hs : ∀ k ∈ ks, isStitchB k = true) : ∀ k ∈ mirS ks, isStitchB k = true := by
  intro k hk
  unfold mirS at hk
  rw [List.mem_map] at hk
  obtain ⟨q, hq, rfl⟩ := hk
  exact (mirK_facts (hs q (List.mem_reverse.1 hq))).1
theorem mirS_length (ks : List Int) : (mirS ks).length = ks.length := by simp [mirS]
theorem mirS_mirS {ks : List Int} (hs : ∀ k ∈ ks, isStitchB k = true) : mirS (mirS ks) = ks := by
  unfold mirS
  rw [← List.map_reverse, List.reverse_reverse, List.map_map]
  conv => rhs; rw [← List.map_id ks]
  exact List.map_congr_left fun k hk => (mirK_facts (hs k hk)).2.1
theorem mirS_taken {ks : List Int} (hs : ∀ k ∈ ks, isStitchB k = true) : takenS (mirS ks) = takenS ks := by
  induction ks with
  | nil => rfl
  | cons k ks ih =>
    rw [mirS_cons, takenS_append, ih fun q hq => hs q (by simp [hq]), takenS, takenS, takenS, (mirK_facts (hs k (by simp))).2.2.1]
    omega
theorem step_mir {k : Int} (hk : isStitchB k = true) {a : List Int} (ha : a.length = takenN k) : stepMade (mirK k) a.reverse = (stepMade k a).reverse ∧ stepOk (mirK k) a.reverse = stepOk k a := by
  rcases stitch_cases hk with rfl | rfl | rfl | rfl | rfl | rfl | rfl | rfl | rfl | rfl | rfl
  · exact ⟨rfl, rfl⟩
  · exact ⟨rfl, rfl⟩
  · exact ⟨rfl, rfl⟩
  · obtain ⟨p, q, rfl⟩ : ∃ p q, a = [p, q] := by
      match a, ha with
      | [p, q], _ => exact ⟨p, q, rfl⟩
    exact ⟨rfl, by simp [stepOk, mirK, st0, st1, Int.add_comm]⟩
  · obtain ⟨p, q, rfl⟩ : ∃ p q, a = [p, q] := by
      match a, ha with
      | [p, q], _ => exact ⟨p, q, rfl⟩
    exact ⟨rfl, by simp [stepOk, mirK, st0, st1, Int.add_comm]⟩
  · obtain ⟨p, rfl⟩ : ∃ p, a = [p] := by
      match a, ha with
      | [p], _ => exact ⟨p, rfl⟩
    exact ⟨rfl, rfl⟩
  · obtain ⟨p, rfl⟩ : ∃ p, a = [p] := by
      match a, ha with
      | [p], _ => exact ⟨p, rfl⟩
    exact ⟨rfl, rfl⟩
  · exact ⟨rfl, rfl⟩
  · exact ⟨rfl, rfl⟩
  · exact ⟨rfl, rfl⟩
  · exact ⟨rfl, rfl⟩
theorem sumI_rev (xs : List Int) : sumI xs.reverse = sumI xs := by
  induction xs with
  | nil => rfl
  | cons x r ih => rw [List.reverse_cons, sumI_append, ih]; simp only [sumI]; omega
theorem after_mir {ks : List Int} (hs : ∀ k ∈ ks, isStitchB k = true) {st : List Int} (h : takenS ks = st.length) : afterP (mirS ks) st.reverse = (afterP ks st).reverse ∧ okAfter (mirS ks) st.reverse = okAfter ks st ∧ changesP (mirS ks) st.reverse = (changesP ks st).reverse := by
  induction ks generalizing st with
  | nil => exact ⟨rfl, rfl, rfl⟩
  | cons k ks ih =>
    have hk := hs k (by simp)
    have hks : ∀ q ∈ ks, isStitchB q = true := fun q hq => hs q (by simp [hq])
    rw [takenS] at h
    obtain ⟨a, b, rfl, ha⟩ : ∃ a b, st = a ++ b ∧ a.length = takenN k := ⟨st.take (takenN k), st.drop (takenN k), (List.take_append_drop _ _).symm, by rw [List.length_take]; omega⟩
    have hb : takenS ks = b.length := by rw [List.length_append] at h; omega
    obtain ⟨i1, i2, i3⟩ := ih hks hb
    have ht := mirS_taken hks
    obtain ⟨p1, p2, p3⟩ := after_pre (mirS_mem hks) (x := b.reverse) a.reverse (by rw [ht, hb, List.length_reverse]; exact Nat.le_refl _)
    obtain ⟨s1, s2⟩ := step_mir hk ha
    obtain ⟨q1, q2⟩ := step_pre hk b (x := a) (by omega)
    obtain ⟨f1, f2⟩ := after_app (mirS ks) [mirK k] (b.reverse ++ a.reverse)
    have f3 := changesP_append (mirS ks) [mirK k] (b.reverse ++ a.reverse)
    have ed : (b.reverse ++ a.reverse).drop (takenS (mirS ks)) = a.reverse := by
      rw [ht, hb, ← List.length_reverse, List.drop_left]
    have ed2 : (a ++ b).drop (takenN k) = b := by rw [← ha, List.drop_left]
    have et2 : (a ++ b).take (takenN k) = a := by rw [← ha, List.take_left]
    have hmt := (mirK_facts hk).2.2.1
    have et3 : a.reverse.take (takenN (mirK k)) = a.reverse := List.take_of_length_le (by rw [List.length_reverse, hmt]; omega)
    rw [List.reverse_append, mirS_cons]
    refine ⟨?_, ?_, ?_⟩
    · rw [f1, ed, p1, i1, afterP, afterP, afterP, s1, ed2, q1, List.append_nil, List.reverse_append]
    · rw [f2, ed, p2, i2, okAfter, okAfter, okAfter, s2, ed2, q2, Bool.and_true, Bool.and_comm]
    · rw [f3, ed, p3, i3, changesP, changesP, changesP, ed2, List.reverse_cons]
      congr 1
      rw [changeI, changeI, s1, et3, et2, q1, sumI_rev, sumI_rev]
theorem stacksB_rev (st : List Int) : stacksB st.reverse = stacksB st := by simp [stacksB]
theorem stitchesB_mir {ks : List Int} (h : stitchesB ks = true) : stitchesB (mirS ks) = true := by
  obtain ⟨h1, h2⟩ := stitchesB_of h
  unfold stitchesB
  rw [Bool.and_eq_true, List.all_eq_true, decide_eq_true_eq, mirS_length]
  exact ⟨mirS_mem h2, h1⟩
/-- The stacks after a row's mirror image are the mirror image of the stacks after it. -/
theorem stacksAfter_mir {st ks : List Int} (hk : stitchesB ks = true) (ht : takenS ks = st.length) : (stacksAfterP st.reverse (mirS ks)).1 = (stacksAfterP st ks).1.reverse ∧ (stacksAfterP st.reverse (mirS ks)).2 = (stacksAfterP st ks).2 := by
  obtain ⟨_, hs⟩ := stitchesB_of hk
  obtain ⟨m1, m2, _⟩ := after_mir hs ht
  unfold stacksAfterP
  rw [stacksB_rev, stitchesB_mir hk, hk, mirS_taken hs, List.length_reverse, m1, m2, List.length_reverse]
  split
  · split
    · exact ⟨rfl, rfl⟩
    · exact ⟨rfl, rfl⟩
  · exact ⟨rfl, rfl⟩
theorem keep_mir {d : Int} (hd : d = 1 ∨ d = -1) {st ks : List Int} (hs : ∀ k ∈ ks, isStitchB k = true) (ht : takenS ks = st.length) : keepB (-d) st.reverse (mirS ks) = keepB d st ks := by
  unfold keepB
  rw [(after_mir hs ht).2.2, sumI_rev]
  congr 1
  unfold ordL
  rcases hd with rfl | rfl
  · rw [if_pos rfl, if_neg (by decide), List.reverse_reverse]
  · rw [if_neg (by decide), if_pos rfl]
theorem row_mir {st : List Int} {r : RowD} (h : rowOkB st r = true) : rowOkB st.reverse (mirRow r) = true ∧ (stacksAfterP st.reverse (mirRow r).s).1 = (stacksAfterP st r.s).1.reverse := by
  unfold rowOkB at h ⊢
  simp only [Bool.and_eq_true] at h ⊢
  obtain ⟨⟨h1, h2⟩, h3⟩ := h
  obtain ⟨hd, hr, hk, _⟩ := rowB_of h1
  obtain ⟨_, _, ht, _, _⟩ := stepCode_of h2
  obtain ⟨_, hs⟩ := stitchesB_of hk
  obtain ⟨e1, e2⟩ := stacksAfter_mir hk ht
  refine ⟨⟨⟨?_, ?_⟩, ?_⟩, e1⟩
  · unfold rowB dirB carrierB
    simp only [Bool.and_eq_true, Bool.or_eq_true, beq_iff_eq]
    refine ⟨⟨?_, inR_iff.2 hr⟩, stitchesB_mir hk⟩
    rcases hd with e | e <;> simp [mirRow, e]
  · unfold stepCode at h2 ⊢
    rw [show (mirRow r).s = mirS r.s from rfl, e2]
    exact h2
  · rw [show (mirRow r).s = mirS r.s from rfl, show (mirRow r).d = -r.d from rfl, keep_mir hd hs ht]
    exact h3
theorem rows_mir {st : List Int} {rs : List RowD} (h : rowsOkB st rs = true) : rowsOkB st.reverse (rs.map mirRow) = true ∧ stacksFrom st.reverse (rs.map mirRow) = (stacksFrom st rs).map List.reverse := by
  induction rs generalizing st with
  | nil => exact ⟨rfl, rfl⟩
  | cons r rs ih =>
    simp only [rowsOkB, Bool.and_eq_true] at h
    obtain ⟨m1, m2⟩ := row_mir h.1
    obtain ⟨i1, i2⟩ := ih h.2
    rw [List.map_cons, rowsOkB, m1, stacksFrom, m2, i1, i2, stacksFrom, List.map_cons]
    exact ⟨rfl, rfl⟩
/-- The mirror image of a valid chart. -/
theorem chart_mir {n : Int} {rs : List RowD} (h : chartB n rs = true) : chartB n (rs.map mirRow) = true ∧ chartStacks n (rs.map mirRow) = (chartStacks n rs).map List.reverse ∧ (rs.map mirRow).map mirRow = rs := by
  have h0 := h
  unfold chartB at h
  simp only [Bool.and_eq_true] at h
  obtain ⟨m1, m2⟩ := rows_mir h.2
  rw [List.reverse_replicate] at m1 m2
  have hc : chartB n (rs.map mirRow) = true := by
    unfold chartB
    rw [List.length_map, h.1.1, h.1.2, m1]
    rfl
  refine ⟨hc, ?_, ?_⟩
  · rw [chartStacks, if_pos hc, m2, chartStacks, if_pos h0]
  · rw [List.map_map]
    conv => rhs; rw [← List.map_id rs]
    refine List.map_congr_left fun r hr => ?_
    have hk := (rowB_of (rowsOk_rows h.2 r hr)).2.2.1
    have e := mirS_mirS (stitchesB_of hk).2
    unfold mirS at e
    show (⟨- -r.d, r.r, ((r.s.reverse.map mirK).reverse.map mirK)⟩ : RowD) = r
    rw [e, Int.neg_neg]
/-- A chart stacked on itself, and beside itself. -/
theorem rep_self {n : Int} {rs : List RowD} (h : chartB n rs = true) : repCode n rs 2 = stackCode n rs n rs ∧ repX n rs 2 = stackX n rs n rs := by
  have e2 : repRows (2 : Int).toNat rs = rs ++ rs := rfl
  have e1 : repCode n rs 2 = stackCode n rs n rs := by
    unfold repCode stackCode
    rw [if_pos h, if_pos (by decide), e2, h]
    by_cases hl : lastOf n rs = n
    · rw [if_neg (by simp [hl]), if_pos (show (true && true) = true from rfl), if_pos hl]
    · rw [if_pos (by simp [hl]), if_pos (show (true && true) = true from rfl), if_neg hl]
  refine ⟨e1, ?_⟩
  unfold repX stackX
  rw [e1, e2]
theorem sameHeads_self (rs : List RowD) : sameHeads rs rs = true := by
  induction rs with
  | nil => rfl
  | cons r rs ih => simp [sameHeads, sameHead, ih]
theorem bes_self {n : Int} {rs : List RowD} (h : chartB n rs = true) : (besCode n rs n rs = 0 ∧ chartB (n + n) (joinRows rs rs) = true ∧ besX n rs n rs = ⟨n + n, joinRows rs rs⟩) ∨ besCode n rs n rs = 5 := by
  have e : besCode n rs n rs = if chartB (n + n) (joinRows rs rs) then 0 else 5 := by
    unfold besCode
    rw [h, if_pos (by rfl), if_pos rfl, sameHeads_self, if_pos rfl]
  by_cases hc : chartB (n + n) (joinRows rs rs) = true
  · rw [if_pos hc] at e
    exact .inl ⟨e, hc, by rw [besX, if_pos e]⟩
  · rw [if_neg hc] at e
    exact .inr e
theorem cols_from {st : List Int} {rs : List RowD} (h : rowsOkB st rs = true) : (stacksFrom st rs).map (fun s => (s.length : Int)) = rs.map fun r => (madeS r.s : Int) := by
  induction rs generalizing st with
  | nil => rfl
  | cons r rs ih =>
    simp only [rowsOkB, rowOkB, Bool.and_eq_true] at h
    obtain ⟨_, hk, _, ha, _⟩ := stepCode_of h.1.1.2
    rw [stacksFrom, List.map_cons, List.map_cons, ih h.2, ha, afterP_len (stitchesB_of hk).2]
theorem cols_made {n : Int} {rs : List RowD} (h : chartB n rs = true) : colsP n rs = rs.map fun r => (madeS r.s : Int) := by
  have h0 := h
  unfold chartB at h
  simp only [Bool.and_eq_true] at h
  rw [colsP, chartStacks, if_pos h0, cols_from h.2]
theorem join_self (rs : List RowD) : joinRows rs rs = rs.map fun r => joinRow r r := by
  induction rs with
  | nil => rfl
  | cons r rs ih => simp [joinRows, ih]
theorem cols_double {n : Int} {rs : List RowD} (h : chartB n rs = true) (h2 : chartB (n + n) (joinRows rs rs) = true) : colsP (n + n) (joinRows rs rs) = (colsP n rs).map fun x => 2 * x := by
  rw [cols_made h2, cols_made h, join_self, List.map_map, List.map_map]
  refine List.map_congr_left fun r _ => ?_
  show ((madeS (r.s ++ r.s) : Nat) : Int) = 2 * (madeS r.s : Int)
  rw [madeS_append]
  omega

end Go.Proofs.YtnjgmhdmjaijgaaGreatDoor

/- Charts stacked: plain laws; parts of a list of rows in memory. -/
namespace Go.Proofs.YtnjgmhdmjaijgaaGreatDoor
open Go Go.RowKit

theorem cols_len {n : Int} {rs : List RowD} (h : chartB n rs = true) : (colsP n rs).length = rs.length ∧ (chartStacks n rs).length = rs.length := by
  have h2 : (chartStacks n rs).length = rs.length := by rw [chartStacks, if_pos h, stacksFrom_length]
  exact ⟨by rw [colsP, List.length_map, h2], h2⟩
theorem cols_at {n : Int} {rs : List RowD} (h : chartB n rs = true) {i : Nat} {x : Int} {xs : List Int} {r : RowD} (hx : (colsP n rs)[i]? = some x) (hs : (chartStacks n rs)[i]? = some xs) (hr : rs[i]? = some r) :
    (xs.length : Int) = x ∧ madeP r.s = x ∧ r.s.length ≤ 16 := by
  have h1 := rowB_of ((chartB_of h).2.2 r (List.mem_of_getElem? hr))
  refine ⟨?_, ?_, h1.2.2.2⟩
  · rw [colsP, List.getElem?_map, hs] at hx
    simpa using hx
  · rw [cols_made h, List.getElem?_map, hr] at hx
    rw [madeP, if_pos h1.2.2.1]
    simpa using hx
theorem stack_cases {n m : Int} {rs ss : List RowD} (h1 : chartB n rs = true) (h2 : chartB m ss = true) :
    (stackCode n rs m ss = 0 ∧ stackX n rs m ss = ⟨n, rs ++ ss⟩ ∧ chartB n (rs ++ ss) = true) ∨ stackCode n rs m ss = 5 ∨ (stackCode n rs m ss = 10 ∧ ∃ k x, rs.length = k + 1 ∧ (colsP n rs)[k]? = some x ∧ x ≠ m) := by
  have e : stackCode n rs m ss = if lastOf n rs = m then (if chartB n (rs ++ ss) then 0 else 5) else 10 := by
    unfold stackCode
    rw [if_pos (by simp [h1, h2])]
  by_cases hl : lastOf n rs = m
  · rw [if_pos hl] at e
    by_cases hc : chartB n (rs ++ ss) = true
    · rw [if_pos hc] at e
      exact .inl ⟨e, by rw [stackX, if_pos e], hc⟩
    · rw [if_neg hc] at e
      exact .inr (.inl e)
  · rw [if_neg hl] at e
    obtain ⟨k, xs, hk, hx, hla⟩ := chartStacks_last h1
    refine .inr (.inr ⟨e, k, (xs.length : Int), by rw [← (cols_len h1).2, hk], ?_, by rw [← hla]; exact hl⟩)
    rw [colsP, List.getElem?_map, hx]
    rfl
theorem RowsR.head {w : World} {A : Option Addr} {rs ss : List RowD} (h : RowsR w A (rs ++ ss)) : RowsR w A rs := by
  intro k hk
  obtain ⟨b, off, A', c', r, hA, hx, h0⟩ := h k (by rw [List.length_append]; omega)
  exact ⟨b, off, A', c', r, hA, by rw [← hx, List.getElem?_append_left hk], h0⟩
theorem RowsR.tail {w : World} {g : Nat} {rs ss : List RowD} (h : RowsR w (some ⟨g, 0, none⟩) (rs ++ ss)) : RowsR w (some ⟨g, rs.length * 3, none⟩) ss := by
  intro k hk
  obtain ⟨b, off, A', c', r, hA, hx, h0, h1, h2, h3⟩ := h (rs.length + k) (by rw [List.length_append]; omega)
  injection hA with hA
  injection hA with hA1 hA2
  subst hA1 hA2
  refine ⟨g, rs.length * 3, A', c', r, rfl, ?_, ?_, ?_, ?_, h3⟩
  · rw [List.getElem?_append_right (by omega), Nat.add_sub_cancel_left] at hx
    exact hx
  · rw [show rs.length * 3 + k * 3 = 0 + (rs.length + k) * 3 by omega]; exact h0
  · rw [show rs.length * 3 + k * 3 + 1 = 0 + (rs.length + k) * 3 + 1 by omega]; exact h1
  · rw [show rs.length * 3 + k * 3 + 2 = 0 + (rs.length + k) * 3 + 2 by omega]; exact h2
theorem OwnRows.form {w : World} {lo hi n c : Nat} {A : Option Addr} {rs : List RowD} (h : OwnRows w lo hi A n c rs) (hn : 0 < n) : ∃ g, A = some ⟨g, 0, none⟩ ∧ n ≤ c ∧ c ≤ maxLen := by
  obtain ⟨cs, h1, _⟩ := h.ex
  rcases h1.form with ⟨_, h2, _, _⟩ | ⟨g, cur, h2, _, _, _, h3, h4, _⟩
  · omega
  · exact ⟨g, h2, h3, h4⟩
theorem chText_size {n : Int} {rs : List RowD} (h : chartB n rs = true) : (chText n rs).size ≤ 1000 := by
  rw [chText, if_pos h]
  have h1 := chTo_size (n := n) (rs := rs) (fun r hr => (rowB_of ((chartB_of h).2.2 r hr)).2.2.2)
  have h2 := (chart_size h).1
  omega
end Go.Proofs.YtnjgmhdmjaijgaaGreatDoor

/- Charts: StackCharts, the program's side. -/
namespace Go.Proofs.YtnjgmhdmjaijgaaGreatDoor
open Go Go.RowKit

theorem concat_rows2 (rs ss : List RowD) (A1 A2 : Option Addr) (c1 c2 g lo m hi : Nat) (t : TypeId) (w : World) (o1 : OwnRows w lo m A1 rs.length c1 rs) (o2 : OwnRows w m hi A2 ss.length c2 ss) (h1 : lo ≤ m) (h2 : m ≤ hi) (h3 : hi ≤ w.heap.size)
    (hb : Blk w g t #[.slice A1 rs.length c1, .slice A2 ss.length c2]) (hl1 : rs.length ≤ 1000) (hl2 : ss.length ≤ 1000) :
    Calls Tryz.prog 41 #[.slice (some ⟨g, 0, none⟩) 2 2] w fun e w' => ∃ A' c', e = .returned (.slice A' (rs ++ ss).length c') ∧ OwnRows w' lo w'.heap.size A' (rs ++ ss).length c' (rs ++ ss) ∧ Below w.heap.size w w' := by
  obtain ⟨cs1, oc1, cr1⟩ := o1.ex
  obtain ⟨cs2, oc2, cr2⟩ := o2.ex
  have hsl : SlicesAt w (some ⟨g, 0, none⟩) 3 [⟨rs.length, cs1⟩, ⟨ss.length, cs2⟩] := by
    intro k hk
    have : k = 0 ∨ k = 1 := by simp at hk; omega
    rcases this with rfl | rfl
    · exact ⟨g, 0, A1, c1, _, rfl, rfl, oc1.len, cr1.one, hb.c2.1, oc1.cellsAt⟩
    · exact ⟨g, 0, A2, c2, _, rfl, rfl, oc2.len, cr2.one, hb.c2.2, oc2.cellsAt⟩
  have hn : partsN [⟨rs.length, cs1⟩, ⟨ss.length, cs2⟩] = (rs ++ ss).length := by simp [partsN]
  have hc : partsC [⟨rs.length, cs1⟩, ⟨ss.length, cs2⟩] = cs1 ++ cs2 := by simp [partsC]
  have hcall := slices_Concat_impl_Row_impl_Row [⟨rs.length, cs1⟩, ⟨ss.length, cs2⟩] _ 2 w hsl (by simp) (by rw [hn, List.length_append]; omega)
  rw [hn, hc] at hcall
  refine hcall.mono ?_
  rintro e w' ⟨A', c', rfl, o, b⟩
  have z := b.size
  refine ⟨A', c', rfl, ⟨cs1 ++ cs2, o.mono (by omega) (Nat.le_refl _), ?_⟩, b⟩
  exact ((cr1.append cr2 h1 h2).keep fun q _ hq _ => b.block q (by omega)).mono (Nat.le_refl _) (by omega)

set_option maxHeartbeats 4000000 in
set_option maxRecDepth 10000 in
theorem impl_StackCharts (n m : Int) (rs ss : List RowD) (A B : Option Addr) (c d : Nat) (w : World) (h : RowsR w A rs) (hl : rs.length ≤ 9223372036854775807) (h' : RowsR w B ss) (hl' : ss.length ≤ 9223372036854775807) :
    Calls Tryz.prog 17 #[.agg #[.int .i64 n, .slice A rs.length c], .agg #[.int .i64 m, .slice B ss.length d]] w fun e w' => ∃ A' c', e = .returned (.tuple #[.agg #[.int .i64 (stackX n rs m ss).n, .slice A' (stackX n rs m ss).xs.length c'], .int .i64 (stackCode n rs m ss)]) ∧ OwnRows w' w.heap.size w'.heap.size A' (stackX n rs m ss).xs.length c' (stackX n rs m ss).xs ∧ Below w.heap.size w w' := by
  have t1 : (24 : TypeId) ≠ 2 := by decide
  have t2 : (24 : TypeId) ≠ 42 := by decide
  obtain ⟨w1, hw1⟩ : ∃ w1, w1 = ((w.alloc (.cells #[.int .i64 n, .slice A rs.length c] 24)).alloc (.cells #[.int .i64 m, .slice B ss.length d] 24)).alloc (.cells #[.int .i64 0, .slice none 0 0] 24) := ⟨_, rfl⟩
  have hb1 : Below w.heap.size w w1 := by rw [hw1]; (repeat (first | exact Below.refl _ _ | assumption | apply Below.drew | apply below_drewN | (refine Below.alloc ?_ (by first | omega | (simp; done) | (simp; omega)) _) | (refine Below.setCell ?_ (by first | omega | (simp; done) | (simp; omega)) _)))
  have ka : Blk w1 w.heap.size 24 #[.int .i64 n, .slice A rs.length c] := by rw [hw1]; exact ((Blk.new w _ _).alloc _).alloc _
  have kb : Blk w1 (w.heap.size + 1) 24 #[.int .i64 m, .slice B ss.length d] := by rw [hw1]; exact Blk.alloc (by simpa using Blk.new (w.alloc (.cells #[.int .i64 n, .slice A rs.length c] 24)) 24 #[.int .i64 m, .slice B ss.length d]) _
  have kz : Blk w1 (w.heap.size + 2) 24 #[.int .i64 0, .slice none 0 0] := by rw [hw1]; simpa using Blk.new ((w.alloc (.cells #[.int .i64 n, .slice A rs.length c] 24)).alloc (.cells #[.int .i64 m, .slice B ss.length d] 24)) 24 #[.int .i64 0, .slice none 0 0]
  have hz1 : w1.heap.size = w.heap.size + 3 := by rw [hw1]; simp
  have hz1' : w.heap.size + 3 ≤ w1.heap.size := by omega
  clear hz1
  cases hv1 : chartB n rs
  · have HF := Lib.hid (stack_err (stackCode_1 (rs := rs) (ss := ss) (n := n) (m := m) (.inl hv1)) (by decide))
    go_enter Tryz.func17, Tryz.ntmps17
    go_wp2_with (fail)
    rw [← hw1]
    refine (impl_ValidChart n rs A c _ (h.below hb1) hl).mono ?_; rintro e w2 ⟨rfl, b2⟩
    have hb2 : Below w.heap.size w w2 := hb1.trans (b2.mono (by omega))
    have kz2 := kz.below b2 (by omega)
    obtain ⟨r0, r1⟩ := kz2.c2
    have g0 := kz2.frozen 0
    have g1 := kz2.frozen 1
    rw [hv1]
    clear hw1
    go_wp2_with (fail)
    refine bodyPost_ret (v := .tuple #[.agg #[.int .i64 (stackX n rs m ss).n, .slice none (stackX n rs m ss).xs.length 0], .int .i64 (stackCode n rs m ss)]) (by rw [HF.out.1, HF.out.2]; simp [results, Tryz.results17, go_sem, r0, r1]) rfl ⟨none, 0, rfl, ?_, ?_⟩
    · rw [HF.out.1]; exact OwnRows.nil _ _ _
    · (repeat (first | exact Below.refl _ _ | assumption | apply Below.drew | apply below_drewN | (refine Below.alloc ?_ (by first | omega | (simp; done) | (simp; omega)) _) | (refine Below.setCell ?_ (by first | omega | (simp; done) | (simp; omega)) _)))
  · cases hv2 : chartB m ss
    · have HF := Lib.hid (stack_err (stackCode_1 (rs := rs) (ss := ss) (n := n) (m := m) (.inr hv2)) (by decide))
      go_enter Tryz.func17, Tryz.ntmps17
      go_wp2_with (fail)
      rw [← hw1]
      refine (impl_ValidChart n rs A c _ (h.below hb1) hl).mono ?_; rintro e w2 ⟨rfl, b2⟩
      have hb2 : Below w.heap.size w w2 := hb1.trans (b2.mono (by omega))
      have kb2 := kb.below b2 (by omega)
      have kz2 := kz.below b2 (by omega)
      have z2 := b2.size
      obtain ⟨q0, q1⟩ := kb2.c2
      rw [hv1]
      clear hw1
      go_wp2_with (fail)
      refine (impl_ValidChart m ss B d _ (h'.below hb2) hl').mono ?_; rintro e w3 ⟨rfl, b3⟩
      have hb3 : Below w.heap.size w w3 := hb2.trans (b3.mono (by omega))
      have kz3 := kz2.below b3 (by omega)
      obtain ⟨r0, r1⟩ := kz3.c2
      have g0 := kz3.frozen 0
      have g1 := kz3.frozen 1
      rw [hv2]
      go_wp2_with (fail)
      refine bodyPost_ret (v := .tuple #[.agg #[.int .i64 (stackX n rs m ss).n, .slice none (stackX n rs m ss).xs.length 0], .int .i64 (stackCode n rs m ss)]) (by rw [HF.out.1, HF.out.2]; simp [results, Tryz.results17, go_sem, r0, r1]) rfl ⟨none, 0, rfl, ?_, ?_⟩
      · rw [HF.out.1]; exact OwnRows.nil _ _ _
      · (repeat (first | exact Below.refl _ _ | assumption | apply Below.drew | apply below_drewN | (refine Below.alloc ?_ (by first | omega | (simp; done) | (simp; omega)) _) | (refine Below.setCell ?_ (by first | omega | (simp; done) | (simp; omega)) _)))
    · have HC := Lib.hid (stackCode_2 hv1 hv2)
      have h8 := lens_of_chart hv1
      have h8' := lens_of_chart hv2
      obtain ⟨h8, hs8⟩ := h8
      obtain ⟨h8', hs8'⟩ := h8'
      have HS8 := Lib.hid hs8; clear hs8
      have HS8' := Lib.hid hs8'; clear hs8'
      have HV1 := Lib.hid hv1
      go_enter Tryz.func17, Tryz.ntmps17
      go_wp2_with (fail)
      rw [← hw1]
      refine (impl_ValidChart n rs A c _ (h.below hb1) hl).mono ?_; rintro e w2 ⟨rfl, b2⟩
      have hb2 : Below w.heap.size w w2 := hb1.trans (b2.mono (by omega))
      have ka2 := ka.below b2 (by omega)
      have kb2 := kb.below b2 (by omega)
      have kz2 := kz.below b2 (by omega)
      have z2 := b2.size
      obtain ⟨q0, q1⟩ := kb2.c2
      rw [hv1]
      clear hw1
      go_wp2_with (fail)
      refine (impl_ValidChart m ss B d _ (h'.below hb2) hl').mono ?_; rintro e w3 ⟨rfl, b3⟩
      have hb3 : Below w.heap.size w w3 := hb2.trans (b3.mono (by omega))
      have ka3 := ka2.below b3 (by omega)
      have kb3 := kb2.below b3 (by omega)
      have kz3 := kz2.below b3 (by omega)
      have z3 := b3.size
      rw [hv2]
      clear hv1 hv2 q0 q1
      go_wp2_with (fail)
      (refine wp_region_pops 0 (S := (fun W' => (W'.cell? ⟨w.heap.size, 0, none⟩ = some (.int .i64 n) ∧ W'.cell? ⟨w.heap.size, 1, none⟩ = some (.slice A rs.length c)) ∧ (W'.cell? ⟨w.heap.size + 1, 0, none⟩ = some (.int .i64 m) ∧ W'.cell? ⟨w.heap.size + 1, 1, none⟩ = some (.slice B ss.length d)))) (pre := ?_) (T := ?_) (n := ?_) (by kernel_rfl) (by kernel_rfl) ?_ ?_ ?_ ?_ (fun hHeld => ?_); rotate_left 3; (focus (simp only [pops]; rfl)); (focus (simp only [tailOf]; rfl)); (focus rfl); (focus (exact ⟨ka3.c2, kb3.c2⟩)))
      ((refine wpAnyH_take (i := 0) (v := ?_) rfl (by kernel_rfl) (by kernel_rfl) (by kernel_rfl) (fun _ _ _ h => h) (Or.inl ⟨by rfl, ?_⟩) (by assumption) ?_; rotate_left; (focus (intro W hSw; (try dsimp only at hSw); go_simp; try (with_reducible rfl)))); (try simp only [List.getElem_toArray, List.getElem_cons_zero, Act.put, List.setIfInBounds_toArray, List.set_cons_zero, List.set_cons_succ]); (refine wpAnyH_take (i := 2) (v := ?_) rfl (by kernel_rfl) (by kernel_rfl) (by kernel_rfl) (fun _ _ _ h => h) (Or.inl ⟨by rfl, ?_⟩) (by assumption) ?_; rotate_left; (focus (intro W hSw; (try dsimp only at hSw); go_simp; try (with_reducible rfl)))); (try simp only [List.getElem_toArray, List.getElem_cons_zero, List.getElem_cons_succ, Act.put, List.setIfInBounds_toArray, List.set_cons_zero, List.set_cons_succ]); (refine wpAnyH_take (i := 3) (v := ?_) rfl (by kernel_rfl) (by kernel_rfl) (by kernel_rfl) (fun _ _ _ h => h) (Or.inl ⟨by rfl, ?_⟩) (by assumption) ?_; rotate_left; (focus (intro W hSw; (try dsimp only at hSw); go_simp; try (with_reducible rfl)))); (try simp only [List.getElem_toArray, List.getElem_cons_zero, List.getElem_cons_succ, Act.put, List.setIfInBounds_toArray, List.set_cons_zero, List.set_cons_succ]))
      (refine wpAnyH_ready (rs := [1]) (by kernel_rfl) (by simp) ?_; refine AllReadyH.cons rfl (fun K hK => ?_) AllReadyH.nil)
      go_simp
      refine (impl_columnsAtEnd n rs A c _ (h.below hb3).drew1 hl HV1.out).mono ?_; rintro e w4 ⟨rfl, b4'⟩
      have b4 := undrew b4'
      have hb4 : Below w.heap.size w w4 := hb3.trans (b4.mono (by omega))
      have ka4 := ka3.below b4 (by omega)
      have kb4 := kb3.below b4 (by omega)
      have kz4 := kz3.below b4 (by omega)
      have z4 := b4.size
      refine hK.out _ _ ⟨ka4.c2, kb4.c2⟩ (fun hHeld => ?_)
      clear hK K b4'
      (try simp only [List.getElem_toArray, List.getElem_cons_zero, List.getElem_cons_succ, Act.put, List.setIfInBounds_toArray, List.set_cons_zero, List.set_cons_succ])
      generalize lastOf n rs = L at HC ⊢
      by_cases hlm : L = m
      · have hlm' : (L != m) = false := by simp [hlm]
        rw [hlm] at HC
        have HLM := Lib.hid hlm; clear hlm
        ((refine wpAnyH_take (i := 4) (v := ?_) rfl (by kernel_rfl) (by kernel_rfl) (by kernel_rfl) (fun _ _ _ h => h) (Or.inl ⟨by rfl, ?_⟩) (by assumption) ?_; rotate_left; (focus (intro W hSw; (try dsimp only at hSw); go_simp; try (with_reducible rfl)))); (try simp only [List.getElem_toArray, List.getElem_cons_zero, List.getElem_cons_succ, Act.put, List.setIfInBounds_toArray, List.set_cons_zero, List.set_cons_succ]))
        (refine wpAnyH_done (by kernel_rfl) ?_ _; change wpList _ _ _ _ _ _)
        go_wp2_with (fail)
        clear hHeld
        (refine wp_region_pops 2 (S := (fun W' => (W'.cell? ⟨w.heap.size, 0, none⟩ = some (.int .i64 n) ∧ W'.cell? ⟨w.heap.size, 1, none⟩ = some (.slice A rs.length c)) ∧ (W'.cell? ⟨w.heap.size + 1, 0, none⟩ = some (.int .i64 m) ∧ W'.cell? ⟨w.heap.size + 1, 1, none⟩ = some (.slice B ss.length d)))) (pre := ?_) (T := ?_) (n := ?_) (by kernel_rfl) (by kernel_rfl) ?_ ?_ ?_ ?_ (fun hHeld => ?_); rotate_left 3; (focus (simp only [pops, List.pop_toArray, List.dropLast_cons_cons, List.dropLast_singleton]; rfl)); (focus (simp only [tailOf, List.pop_toArray, List.dropLast_cons_cons, List.dropLast_singleton, List.back?_toArray, List.getLast?_cons_cons, List.getLast?_singleton, Option.toList_some, List.nil_append, List.cons_append]; rfl)); (focus rfl); (focus (exact ⟨ka4.c2, kb4.c2⟩)))
        ((refine wpAnyH_take (i := 0) (v := ?_) rfl (by kernel_rfl) (by kernel_rfl) (by kernel_rfl) (fun _ _ _ h => h) (Or.inl ⟨by rfl, ?_⟩) (by assumption) ?_; rotate_left; (focus (intro W hSw; (try dsimp only at hSw); go_simp; try (with_reducible rfl)))); (try simp only [List.getElem_toArray, List.getElem_cons_zero, Act.put, List.setIfInBounds_toArray, List.set_cons_zero, List.set_cons_succ]); (refine wpAnyH_take (i := 1) (v := ?_) rfl (by kernel_rfl) (by kernel_rfl) (by kernel_rfl) (fun _ _ _ h => h) (Or.inl ⟨by rfl, ?_⟩) (by assumption) ?_; rotate_left; (focus (intro W hSw; (try dsimp only at hSw); go_simp; try (with_reducible rfl)))); (try simp only [List.getElem_toArray, List.getElem_cons_zero, List.getElem_cons_succ, Act.put, List.setIfInBounds_toArray, List.set_cons_zero, List.set_cons_succ]); (refine wpAnyH_take (i := 2) (v := ?_) rfl (by kernel_rfl) (by kernel_rfl) (by kernel_rfl) (fun _ _ _ h => h) (Or.inl ⟨by rfl, ?_⟩) (by assumption) ?_; rotate_left; (focus (intro W hSw; (try dsimp only at hSw); go_simp; try (with_reducible rfl)))); (try simp only [List.getElem_toArray, List.getElem_cons_zero, List.getElem_cons_succ, Act.put, List.setIfInBounds_toArray, List.set_cons_zero, List.set_cons_succ]); (refine wpAnyH_take (i := 3) (v := ?_) rfl (by kernel_rfl) (by kernel_rfl) (by kernel_rfl) (fun _ _ _ h => h) (Or.inl ⟨by rfl, ?_⟩) (by assumption) ?_; rotate_left; (focus (intro W hSw; (try dsimp only at hSw); go_simp; try (with_reducible rfl)))); (try simp only [List.getElem_toArray, List.getElem_cons_zero, List.getElem_cons_succ, Act.put, List.setIfInBounds_toArray, List.set_cons_zero, List.set_cons_succ]); (refine wpAnyH_take (i := 5) (v := ?_) rfl (by kernel_rfl) (by kernel_rfl) (by kernel_rfl) (fun _ _ _ h => h) (Or.inl ⟨by rfl, ?_⟩) (by assumption) ?_; rotate_left; (focus (intro W hSw; (try dsimp only at hSw); go_simp; try (with_reducible rfl)))); (try simp only [List.getElem_toArray, List.getElem_cons_zero, List.getElem_cons_succ, Act.put, List.setIfInBounds_toArray, List.set_cons_zero, List.set_cons_succ]); (refine wpAnyH_take (i := 6) (v := ?_) rfl (by kernel_rfl) (by kernel_rfl) (by kernel_rfl) (fun _ _ _ h => h) (Or.inl ⟨by rfl, ?_⟩) (by assumption) ?_; rotate_left; (focus (intro W hSw; (try dsimp only at hSw); go_simp; try (with_reducible rfl)))); (try simp only [List.getElem_toArray, List.getElem_cons_zero, List.getElem_cons_succ, Act.put, List.setIfInBounds_toArray, List.set_cons_zero, List.set_cons_succ]))
        (refine wpAnyH_ready (rs := [4]) (by kernel_rfl) (by simp) ?_; refine AllReadyH.cons rfl (fun K hK => ?_) AllReadyH.nil)
        go_simp
        refine (impl_copyRows rs A c _ (h.below hb4).drew1 (by omega) (fun r hr => by have := HS8.out r hr; omega)).mono ?_; rintro e w5 ⟨A5, c5, rfl, o5, b5'⟩
        have b5 := undrew b5'
        replace o5 : OwnRows w5 w4.heap.size w5.heap.size A5 rs.length c5 rs := o5
        have hb5 : Below w.heap.size w w5 := hb4.trans (b5.mono (by omega))
        have ka5 := ka4.below b5 (by omega)
        have kb5 := kb4.below b5 (by omega)
        have kz5 := kz4.below b5 (by omega)
        have z5 := b5.size
        refine hK.out _ _ ⟨ka5.c2, kb5.c2⟩ (fun hHeld => ?_)
        clear hK K b5'
        (try simp only [List.getElem_toArray, List.getElem_cons_zero, List.getElem_cons_succ, Act.put, List.setIfInBounds_toArray, List.set_cons_zero, List.set_cons_succ])
        (refine wpAnyH_ready (rs := [7]) (by kernel_rfl) (by simp) ?_; refine AllReadyH.cons rfl (fun K hK => ?_) AllReadyH.nil)
        go_simp
        refine (impl_copyRows ss B d _ (h'.below hb5) (by omega) (fun r hr => by have := HS8'.out r hr; omega)).mono ?_; rintro e w6 ⟨A6, c6, rfl, o6, b6⟩
        have hb6 : Below w.heap.size w w6 := hb5.trans (b6.mono (by omega))
        have ka6 := ka5.below b6 (by omega)
        have kb6 := kb5.below b6 (by omega)
        have kz6 := kz5.below b6 (by omega)
        have o5b := o5.below b6 (Nat.le_refl _)
        have z6 := b6.size
        refine hK.out _ _ ⟨ka6.c2, kb6.c2⟩ (fun hHeld => ?_)
        clear hK K
        (try simp only [List.getElem_toArray, List.getElem_cons_zero, List.getElem_cons_succ, Act.put, List.setIfInBounds_toArray, List.set_cons_zero, List.set_cons_succ])
        (refine wpAnyH_ready (rs := [8]) (by kernel_rfl) (by simp) ?_; refine AllReadyH.cons rfl (fun K hK => ?_) AllReadyH.nil)
        go_simp
        have kl := Blk.new w6 22 #[.slice A5 rs.length c5, .slice A6 ss.length c6]
        have hb7 : Below w.heap.size w (w6.alloc (.cells #[.slice A5 rs.length c5, .slice A6 ss.length c6] 22)) := hb6.alloc (by omega) _
        have o5c := o5b.alloc (.cells #[.slice A5 rs.length c5, .slice A6 ss.length c6] 22)
        have o6c := o6.alloc (.cells #[.slice A5 rs.length c5, .slice A6 ss.length c6] 22)
        refine hK.out _ _ ⟨(ka6.alloc _).c2, (kb6.alloc _).c2⟩ (fun hHeld => ?_)
        clear hK K
        (try simp only [List.getElem_toArray, List.getElem_cons_zero, List.getElem_cons_succ, Act.put, List.setIfInBounds_toArray, List.set_cons_zero, List.set_cons_succ])
        (refine wpAnyH_ready (rs := [9]) (by kernel_rfl) (by simp) ?_; refine AllReadyH.cons rfl (fun K hK => ?_) AllReadyH.nil)
        go_simp
        refine (concat_rows2 rs ss A5 A6 c5 c6 _ _ _ _ _ _ o5c o6c (by omega) (by omega) (by simp) kl (by omega) (by omega)).mono ?_; rintro e w8 ⟨A8, c8, rfl, o8, b8⟩
        have z8 := b8.size
        simp only [World.size_alloc] at z8
        have hb8 : Below w.heap.size w w8 := hb7.trans (b8.mono (by simp; omega))
        have ka8 := (ka6.alloc (.cells #[.slice A5 rs.length c5, .slice A6 ss.length c6] 22)).below b8 (by simp; omega)
        have kb8 := (kb6.alloc (.cells #[.slice A5 rs.length c5, .slice A6 ss.length c6] 22)).below b8 (by simp; omega)
        have kz8 := (kz6.alloc (.cells #[.slice A5 rs.length c5, .slice A6 ss.length c6] 22)).below b8 (by simp; omega)
        refine hK.out _ _ ⟨ka8.c2, kb8.c2⟩ (fun hHeld => ?_)
        clear hK K
        (try simp only [List.getElem_toArray, List.getElem_cons_zero, List.getElem_cons_succ, Act.put, List.setIfInBounds_toArray, List.set_cons_zero, List.set_cons_succ])
        ((refine wpAnyH_take (i := 10) (v := ?_) rfl (by kernel_rfl) (by kernel_rfl) (by kernel_rfl) (fun _ _ _ h => h) (Or.inl ⟨by rfl, ?_⟩) (by assumption) ?_; rotate_left; (focus (intro W hSw; (try dsimp only at hSw); go_simp; try (with_reducible rfl)))); (try simp only [List.getElem_toArray, List.getElem_cons_zero, List.getElem_cons_succ, Act.put, List.setIfInBounds_toArray, List.set_cons_zero, List.set_cons_succ]))
        (refine wpAnyH_ready (rs := [11]) (by kernel_rfl) (by simp) ?_; refine AllReadyH.cons rfl (fun K hK => ?_) AllReadyH.nil)
        go_simp
        have hlen : (rs ++ ss).length ≤ 16 := by rw [List.length_append]; omega
        try rw [← List.length_append]
        generalize hqs : rs ++ ss = qs at o8 hlen HC ⊢
        have HQ := Lib.hid hqs; clear hqs
        refine (impl_ifChart n qs A8 c8 _ o8.rowsR (by omega)).mono ?_; rintro e w9 ⟨rfl, b9⟩
        have z9 := b9.size
        have hb9 : Below w.heap.size w w9 := hb8.trans (b9.mono (by omega))
        have ka9 := ka8.below b9 (by omega)
        have kb9 := kb8.below b9 (by omega)
        have kz9 := kz8.below b9 (by omega)
        have o9 := o8.below b9 (Nat.le_refl _)
        refine hK.out _ _ ⟨ka9.c2, kb9.c2⟩ (fun hHeld => ?_)
        clear hK K
        (try simp only [List.getElem_toArray, List.getElem_cons_zero, List.getElem_cons_succ, Act.put, List.setIfInBounds_toArray, List.set_cons_zero, List.set_cons_succ])
        ((refine wpAnyH_take (i := 12) (v := ?_) rfl (by kernel_rfl) (by kernel_rfl) (by kernel_rfl) (fun _ _ _ h => h) (Or.inl ⟨by rfl, ?_⟩) (by assumption) ?_; rotate_left; (focus (intro W hSw; (try dsimp only at hSw); go_simp; try (with_reducible rfl)))); (try simp only [List.getElem_toArray, List.getElem_cons_zero, List.getElem_cons_succ, Act.put, List.setIfInBounds_toArray, List.set_cons_zero, List.set_cons_succ]); (refine wpAnyH_take (i := 13) (v := ?_) rfl (by kernel_rfl) (by kernel_rfl) (by kernel_rfl) (fun _ _ _ h => h) (Or.inl ⟨by rfl, ?_⟩) (by assumption) ?_; rotate_left; (focus (intro W hSw; (try dsimp only at hSw); go_simp; try (with_reducible rfl)))); (try simp only [List.getElem_toArray, List.getElem_cons_zero, List.getElem_cons_succ, Act.put, List.setIfInBounds_toArray, List.set_cons_zero, List.set_cons_succ]))
        (refine wpAnyH_done (by kernel_rfl) ?_ _; change wpList _ _ _ _ _ _)
        obtain ⟨r0, r1⟩ := kz9.c2
        have g0 := kz9.frozen 0
        have g1 := kz9.frozen 1
        clear hHeld
        cases hq : chartB n qs
        · have HF : Hid (stackX n rs m ss = ⟨0, []⟩ ∧ stackCode n rs m ss = 5) := Lib.hid (stack_err (by rw [HC.out]; simp [hq]) (by decide))
          go_wp2_with (fail)
          refine bodyPost_ret (v := .tuple #[.agg #[.int .i64 (stackX n rs m ss).n, .slice none (stackX n rs m ss).xs.length 0], .int .i64 (stackCode n rs m ss)]) (by rw [HF.out.1, HF.out.2]; simp [results, Tryz.results17, go_sem, r0, r1]) rfl ⟨none, 0, rfl, ?_, ?_⟩
          · rw [HF.out.1]; exact OwnRows.nil _ _ _
          · (repeat (first | exact Below.refl _ _ | assumption | apply Below.drew | apply below_drewN | (refine Below.alloc ?_ (by first | omega | (simp; done) | (simp; omega)) _) | (refine Below.setCell ?_ (by first | omega | (simp; done) | (simp; omega)) _)))
        · have HF : Hid (stackX n rs m ss = ⟨n, qs⟩ ∧ stackCode n rs m ss = 0) := Lib.hid (by
            have e : stackCode n rs m ss = 0 := by rw [HC.out]; simp [hq]
            exact ⟨by rw [stackX, if_pos e, HQ.out], e⟩)
          go_wp2_with (fail)
          refine bodyPost_ret (v := .tuple #[.agg #[.int .i64 (stackX n rs m ss).n, .slice A8 (stackX n rs m ss).xs.length c8], .int .i64 (stackCode n rs m ss)]) (by rw [HF.out.1, HF.out.2]; simp [results, Tryz.results17, go_sem, r0, r1]) rfl ⟨A8, c8, rfl, ?_, ?_⟩
          · rw [HF.out.1]
            have k1 := kz9.set20 (.int .i64 n)
            exact ((o9.farT kz9 t1 t2 0 _).farT k1 t1 t2 1 _).mono (by omega) (by simp; omega)
          · (repeat (first | exact Below.refl _ _ | assumption | apply Below.drew | apply below_drewN | (refine Below.alloc ?_ (by first | omega | (simp; done) | (simp; omega)) _) | (refine Below.setCell ?_ (by first | omega | (simp; done) | (simp; omega)) _)))
      · have hlm' : (L != m) = true := by simpa using hlm
        have HF : Hid (stackX n rs m ss = ⟨0, []⟩ ∧ stackCode n rs m ss = 10) := Lib.hid (stack_err (by rw [HC.out, if_neg hlm]) (by decide))
        clear hlm
        obtain ⟨r0, r1⟩ := kz4.c2
        have g0 := kz4.frozen 0
        have g1 := kz4.frozen 1
        ((refine wpAnyH_take (i := 4) (v := ?_) rfl (by kernel_rfl) (by kernel_rfl) (by kernel_rfl) (fun _ _ _ h => h) (Or.inl ⟨by rfl, ?_⟩) (by assumption) ?_; rotate_left; (focus (intro W hSw; (try dsimp only at hSw); go_simp; try (with_reducible rfl)))); (try simp only [List.getElem_toArray, List.getElem_cons_zero, List.getElem_cons_succ, Act.put, List.setIfInBounds_toArray, List.set_cons_zero, List.set_cons_succ]))
        (refine wpAnyH_done (by kernel_rfl) ?_ _; change wpList _ _ _ _ _ _)
        go_wp2_with (fail)
        refine bodyPost_ret (v := .tuple #[.agg #[.int .i64 (stackX n rs m ss).n, .slice none (stackX n rs m ss).xs.length 0], .int .i64 (stackCode n rs m ss)]) (by rw [HF.out.1, HF.out.2]; simp [results, Tryz.results17, go_sem, r0, r1]) rfl ⟨none, 0, rfl, ?_, ?_⟩
        · rw [HF.out.1]; exact OwnRows.nil _ _ _
        · (repeat (first | exact Below.refl _ _ | assumption | apply Below.drew | apply below_drewN | (refine Below.alloc ?_ (by first | omega | (simp; done) | (simp; omega)) _) | (refine Below.setCell ?_ (by first | omega | (simp; done) | (simp; omega)) _)))

end Go.Proofs.YtnjgmhdmjaijgaaGreatDoor
