/- Steps of the proof, joined from several texts: GH GM XI XJ. -/
import Derived.Test.YtifjdiiafofnpaaZ13
import Derived.Test.YtifjdiiafofnpaaZ9
import Derived.Test.YtifjdiiafofnpaaZ7
import Derived.Test.YtifjdiiafofnpaaZ11

/- The laws over draws: what they compare with. -/
namespace Go.Proofs.Ytifjdiiafofnpaa
open Go Go.RowKit

theorem laws_a2Same (A B : Option Addr) (c d : Nat) (xs ys : List Int) (w : World) (h : Ints w A xs) (h' : Ints w B ys) (hl : xs.length ≤ 9223372036854775807) (_hl' : ys.length ≤ 9223372036854775807) :
    Calls Try.prog 31 #[.slice A xs.length c, .slice B ys.length d] w fun e w' => e = .returned (.bool (decide (xs = ys))) ∧ ∃ n, w' = w.drewN n := by
  by_cases hle : xs.length = ys.length
  · have HL := Lib.hid hle
    have hle' : ((xs.length : Int) != (ys.length : Int)) = false := by simp [hle]
    clear hle
    go_enter Try.func31, Try.ntmps31
    go_wp2
    go_loopw [5] (fun i wr => ∃ (k : Nat), k ≤ xs.length ∧ i = .int .i64 k ∧ xs.take k = ys.take k ∧ ∃ n, wr = w.drewN n) (fun i _ => xs.length - (intOf i).toNat)
    case atStart => exact ⟨0, Nat.zero_le _, rfl, rfl, 0, rfl⟩
    case round =>
      obtain ⟨k, hk, rfl, htk, n, rfl⟩ := hrel
      have HT := Lib.hid htk; clear htk
      by_cases hlt : k < xs.length
      · have hlt' : k < ys.length := by rw [← HL.out]; exact hlt
        obtain ⟨b, off, x, rfl, hc, hx⟩ := h k hlt
        obtain ⟨b', off', y, rfl, hc', hy⟩ := h' k hlt'
        by_cases hxy : x = y
        · subst hxy
          go_wp2
          go_quiet (fail)
          go_wp2
          go_roundw
          case rel => exact ⟨k + 1, by omega, by go_num, by rw [take_snoc hx, take_snoc hy, HT.out], (by first | exact drew2 _ _ _ | exact ⟨_, rfl⟩)⟩
          case measure => simp [intOf]; omega
        · have hxy' : (x != y) = true := by simpa using hxy
          go_wp2
          go_quiet (fail)
          go_wp2
          go_ret
          exact ⟨ret_bool (by simpa using ne_of_getElem? hx hy hxy), (by first | exact drew2 _ _ _ | exact ⟨_, rfl⟩)⟩
      · go_wp2
        go_ret
        have : k = xs.length := by omega
        subst this
        have e := HT.out
        rw [take_all (Nat.le_refl _), take_all (by rw [HL.out]; exact Nat.le_refl _)] at e
        exact ⟨ret_bool (by simpa using e), _, rfl⟩
  · have hle' : ((xs.length : Int) != (ys.length : Int)) = true := by simp; omega
    go_enter Try.func31, Try.ntmps31
    go_wp2
    go_ret
    exact ⟨ret_bool (by simp; intro e; exact hle (by rw [e])), 0, rfl⟩

theorem laws_b10Nums (A B : Option Addr) (c d : Nat) (xs ys : List Int) (w : World) (h : Ints w A xs) (h' : Ints w B ys) (hl : xs.length ≤ 9223372036854775807) (_hl' : ys.length ≤ 9223372036854775807) :
    Calls Try.prog 37 #[.slice A xs.length c, .slice B ys.length d] w fun e w' => e = .returned (.bool (decide (xs = ys))) ∧ ∃ n, w' = w.drewN n := by
  by_cases hle : xs.length = ys.length
  · have HL := Lib.hid hle
    have hle' : ((xs.length : Int) != (ys.length : Int)) = false := by simp [hle]
    clear hle
    go_enter Try.func37, Try.ntmps37
    go_wp2
    go_loopw [5] (fun i wr => ∃ (k : Nat), k ≤ xs.length ∧ i = .int .i64 k ∧ xs.take k = ys.take k ∧ ∃ n, wr = w.drewN n) (fun i _ => xs.length - (intOf i).toNat)
    case atStart => exact ⟨0, Nat.zero_le _, rfl, rfl, 0, rfl⟩
    case round =>
      obtain ⟨k, hk, rfl, htk, n, rfl⟩ := hrel
      have HT := Lib.hid htk; clear htk
      by_cases hlt : k < xs.length
      · have hlt' : k < ys.length := by rw [← HL.out]; exact hlt
        obtain ⟨b, off, x, rfl, hc, hx⟩ := h k hlt
        obtain ⟨b', off', y, rfl, hc', hy⟩ := h' k hlt'
        by_cases hxy : x = y
        · subst hxy
          go_wp2
          go_quiet (fail)
          go_wp2
          go_roundw
          case rel => exact ⟨k + 1, by omega, by go_num, by rw [take_snoc hx, take_snoc hy, HT.out], (by first | exact drew2 _ _ _ | exact ⟨_, rfl⟩)⟩
          case measure => simp [intOf]; omega
        · have hxy' : (x != y) = true := by simpa using hxy
          go_wp2
          go_quiet (fail)
          go_wp2
          go_ret
          exact ⟨ret_bool (by simpa using ne_of_getElem? hx hy hxy), (by first | exact drew2 _ _ _ | exact ⟨_, rfl⟩)⟩
      · go_wp2
        go_ret
        have : k = xs.length := by omega
        subst this
        have e := HT.out
        rw [take_all (Nat.le_refl _), take_all (by rw [HL.out]; exact Nat.le_refl _)] at e
        exact ⟨ret_bool (by simpa using e), _, rfl⟩
  · have hle' : ((xs.length : Int) != (ys.length : Int)) = true := by simp; omega
    go_enter Try.func37, Try.ntmps37
    go_wp2
    go_ret
    exact ⟨ret_bool (by simp; intro e; exact hle (by rw [e])), 0, rfl⟩

theorem laws_a2Long (A B : Option Addr) (n c m d : Nat) (w : World) : Calls Try.prog 22 #[.slice A n c, .slice B m d] w fun e w' => e = .returned (.bool (decide (3000 < n) || decide (3000 < m))) ∧ w = w' := by
  by_cases h1 : 3000 < n
  · have d1 : decide ((n : Int) > 3000) = true := decide_eq_true (by omega)
    go_enter Try.func22, Try.ntmps22
    go_wp2_with (fail)
    go_ret
    exact ⟨by simp [h1], rfl⟩
  · have d1 : decide ((n : Int) > 3000) = false := decide_eq_false (by omega)
    go_enter Try.func22, Try.ntmps22
    go_wp2_with (fail)
    go_ret
    refine ⟨ret_bool ?_, rfl⟩
    rw [decide_eq_false h1, Bool.false_or]
    exact decide_eq_decide.2 (by omega)

theorem laws_b10Long (A : Option Addr) (n c : Nat) (w : World) : Calls Try.prog 33 #[.slice A n c] w fun e w' => e = .returned (.bool (decide (1048576 < n))) ∧ w = w' := by
  go_enter Try.func33, Try.ntmps33
  go_wp2_with (fail)
  go_ret
  exact ⟨ret_bool (decide_eq_decide.2 (by omega)), rfl⟩

theorem rev_step {xs : List Int} {k : Nat} {x : Int} (h : xs[k]? = some x) : (xs.drop (k + 1)).reverse ++ [x] = (xs.drop k).reverse := by
  rw [drop_cons h, List.reverse_cons]
set_option maxHeartbeats 1000000 in
set_option maxRecDepth 10000 in
theorem laws_a2Back (A : Option Addr) (c : Nat) (xs : List Int) (w : World) (h : Ints w A xs) (hl : xs.length ≤ 1000000) :
    Calls Try.prog 32 #[.slice A xs.length c] w fun e w' => ∃ A' c', e = .returned (.slice A' xs.reverse.length c') ∧ OwnI w' w.heap.size w'.heap.size A' c' xs.reverse ∧ Below w.heap.size w w' := by
  obtain ⟨i0, hi0, hz0, hz1, hz2⟩ := info_parts info_int64
  have j1 : IntKind.i64.wrap ((xs.length : Int) - 1) = (xs.length : Int) - 1 := IntWalk.i64_in _ ⟨by omega, by omega⟩
  go_enter Try.func32, Try.ntmps32
  go_wp2_with (fail)
  go_loopw [3, 4] (fun ov iv wr => ∃ (k : Nat) (A3 : Option Addr) (c3 : Nat), k ≤ xs.length ∧ iv = .int .i64 ((k : Int) - 1) ∧ ov = .slice A3 (xs.length - k) c3 ∧ OwnC wr w.heap.size wr.heap.size 2 1 A3 (xs.length - k) c3 (((xs.drop k).reverse).map (Value.int .i64)) ∧ Below w.heap.size w wr) (fun _ iv _ => (intOf iv + 1).toNat)
  case atStart =>
    refine ⟨xs.length, some ⟨w.heap.size, 0, none⟩, 0, Nat.le_refl _, rfl, by simp, ?_, by (repeat (first | exact Below.refl _ _ | assumption | apply Below.drew | apply below_drewN | (refine Below.alloc ?_ (by first | omega | (simp; done) | (simp; omega)) _) | (refine Below.setCell ?_ (by first | omega | (simp; done) | (simp; omega)) _)))⟩
    have := (OwnC.lit (w := w) (lo := w.heap.size) (n := 0) 2 1 #[] (Nat.le_refl _) (Nat.zero_le _) rfl).mono (Nat.le_refl _) (show w.heap.size + 1 ≤ (w.alloc (.cells #[] 2)).heap.size by simp)
    simpa using this
  case round =>
    obtain ⟨k, A3, c3, hk, rfl, rfl, ho, hb⟩ := hrel
    have hzs := hb.size
    by_cases hk0 : 0 < k
    · obtain ⟨m, rfl⟩ : ∃ m, k = m + 1 := ⟨k - 1, by omega⟩
      have d0 : decide ((((m + 1 : Nat) : Int) - 1) ≥ 0) = true := decide_eq_true (by omega)
      have e1 : (((m + 1 : Nat) : Int) - 1) = (m : Int) := by omega
      rw [e1] at d0 ⊢
      clear e1
      obtain ⟨b, off, x, rfl, hc, hx⟩ := (h.below hb) m (by omega)
      have HX : Hid (((xs.drop m).reverse).map (Value.int .i64) = ((xs.drop (m + 1)).reverse).map (Value.int .i64) ++ [.int .i64 x]) := Lib.hid (by rw [← rev_step hx]; simp)
      clear hx
      have j2 : (0 : Int) ≤ (m : Int) := by omega
      have j3 : (m : Int) < (xs.length : Int) := by omega
      have j4 : IntKind.i64.wrap ((m : Int) - 1) = (m : Int) - 1 := IntWalk.i64_in _ ⟨by omega, by omega⟩
      have hn : xs.length - (m + 1) + 1 = xs.length - m := by omega
      have HN := Lib.hid hn; clear hn
      generalize hq : xs.length - (m + 1) = q at *
      have hq1 : q ≤ 1000000 := by omega
      have HQ := Lib.hid hq; clear hq
      go_wp2_with (at_builtin; refine wpList_append1 wr [.int .i64 x] _ rfl (.tmp 13) (.tmp 18) _ rfl 2 i0 _ 1 8 Try.underlying22 hi0 hz0 hz1 hz2 rfl (by decide) rfl ho hzs 1 rfl rfl (by simp [Value.oneCell']) (by omega) (by decide) ?_; intro A2 c2 w3 ho2 hg2 hb3 hz2')
      refine ⟨⟨m, A2, c2, by omega, rfl, by rw [HN.out], by rw [← HN.out, HX.out]; exact ho2, hb.trans hb3⟩, by simp [intOf]⟩
    · obtain rfl : k = 0 := by omega
      have d0 : decide ((((0 : Nat) : Int) - 1) ≥ 0) = false := by decide
      go_wp2_with (fail)
      go_ret
      refine ⟨A3, c3, by simp, ?_, hb⟩
      show OwnC _ _ _ _ _ _ _ _ _
      rw [List.length_reverse]
      simpa using ho

end Go.Proofs.Ytifjdiiafofnpaa

/- The mirror image of rows of stitches and of charts, plain. -/
namespace Go.Proofs.Ytifjdiiafofnpaa
open Go.RowKit

theorem step_pre {k : Int} (hk : isStitchB k = true) {x : List Int} (y : List Int) (h : takenN k ≤ x.length) : stepMade k (x ++ y) = stepMade k x ∧ stepOk k (x ++ y) = stepOk k x := by
  obtain ⟨a1, a2⟩ := step_take hk (x ++ y)
  obtain ⟨b1, b2⟩ := step_take hk x
  rw [List.take_append_of_le_length h] at a1 a2
  exact ⟨a1.symm.trans b1, a2.symm.trans b2⟩
theorem after_pre {ks : List Int} (hs : ∀ k ∈ ks, isStitchB k = true) {x : List Int} (y : List Int) (h : takenS ks ≤ x.length) : afterP ks (x ++ y) = afterP ks x ∧ okAfter ks (x ++ y) = okAfter ks x ∧ changesP ks (x ++ y) = changesP ks x := by
  induction ks generalizing x with
  | nil => exact ⟨rfl, rfl, rfl⟩
  | cons k ks ih =>
    have hk := hs k (by simp)
    rw [takenS] at h
    obtain ⟨e1, e2⟩ := step_pre hk y (show takenN k ≤ x.length by omega)
    obtain ⟨i1, i2, i3⟩ := ih (fun q hq => hs q (by simp [hq])) (x := x.drop (takenN k)) (by rw [List.length_drop]; omega)
    have ed : (x ++ y).drop (takenN k) = x.drop (takenN k) ++ y := List.drop_append_of_le_length (by omega)
    refine ⟨?_, ?_, ?_⟩
    · rw [afterP, afterP, ed, i1, e1]
    · rw [okAfter, okAfter, ed, i2, e2]
    · rw [changesP, changesP, ed, i3, changeI, changeI, e1, List.take_append_of_le_length (by omega)]
theorem after_app (a b st : List Int) : afterP (a ++ b) st = afterP a st ++ afterP b (st.drop (takenS a)) ∧ okAfter (a ++ b) st = (okAfter a st && okAfter b (st.drop (takenS a))) := by
  induction a generalizing st with
  | nil => simp [afterP, okAfter, takenS]
  | cons k a ih =>
    obtain ⟨i1, i2⟩ := ih (st.drop (takenN k))
    rw [List.cons_append, afterP, afterP, okAfter, okAfter, takenS, i1, i2, List.drop_drop, List.append_assoc, Bool.and_assoc]
    exact ⟨rfl, rfl⟩
theorem mirK_facts {k : Int} (h : isStitchB k = true) : isStitchB (mirK k) = true ∧ mirK (mirK k) = k ∧ takenN (mirK k) = takenN k ∧ madeN (mirK k) = madeN k := by
  rcases stitch_cases h with rfl | rfl | rfl | rfl | rfl | rfl | rfl | rfl | rfl | rfl | rfl <;> decide
def mirS (ks : List Int) : List Int := ks.reverse.map mirK
theorem mirS_cons (k : Int) (ks : List Int) : mirS (k :: ks) = mirS ks ++ [mirK k] := by simp [mirS]
theorem mirS_mem {ks : List Int} (hs : ∀ k ∈ ks, isStitchB k = true) : ∀ k ∈ mirS ks, isStitchB k = true := by
  intro k hk
  unfold mirS at hk
  rw [List.mem_map] at hk
  obtain ⟨q, hq, rfl⟩ := hk
  exact (mirK_facts (hs q (List.mem_reverse.1 hq))).1
theorem mirS_length (ks : List Int) : (mirS ks).length = ks.length := by simp [mirS]
theorem mirS_mirS {ks : List Int} (hs : ∀ k ∈ ks, isStitchB k = true) : mirS (mirS ks) = ks := by
  unfold mirS
  rw [← List.map_reverse, List.reverse_reverse, List.map_map]
  conv => rhs; rw [← List.map_id ks]
  exact List.map_congr_left fun k hk => (mirK_facts (hs k hk)).2.1
theorem mirS_taken {ks : List Int} (hs : ∀ k ∈ ks, isStitchB k = true) : takenS (mirS ks) = takenS ks := by
  induction ks with
  | nil => rfl
  | cons k ks ih =>
    rw [mirS_cons, takenS_append, ih fun q hq => hs q (by simp [hq]), takenS, takenS, takenS, (mirK_facts (hs k (by simp))).2.2.1]
    omega
theorem step_mir {k : Int} (hk : isStitchB k = true) {a : List Int} (ha : a.length = takenN k) : stepMade (mirK k) a.reverse = (stepMade k a).reverse ∧ stepOk (mirK k) a.reverse = stepOk k a := by
  rcases stitch_cases hk with rfl | rfl | rfl | rfl | rfl | rfl | rfl | rfl | rfl | rfl | rfl
  · exact ⟨rfl, rfl⟩
  · exact ⟨rfl, rfl⟩
  · exact ⟨rfl, rfl⟩
  · obtain ⟨p, q, rfl⟩ : ∃ p q, a = [p, q] := by
      match a, ha with
      | [p, q], _ => exact ⟨p, q, rfl⟩
    exact ⟨rfl, by simp [stepOk, mirK, st0, st1, Int.add_comm]⟩
  · obtain ⟨p, q, rfl⟩ : ∃ p q, a = [p, q] := by
      match a, ha with
      | [p, q], _ => exact ⟨p, q, rfl⟩
    exact ⟨rfl, by simp [stepOk, mirK, st0, st1, Int.add_comm]⟩
  · obtain ⟨p, rfl⟩ : ∃ p, a = [p] := by
      match a, ha with
      | [p], _ => exact ⟨p, rfl⟩
    exact ⟨rfl, rfl⟩
  · obtain ⟨p, rfl⟩ : ∃ p, a = [p] := by
      match a, ha with
      | [p], _ => exact ⟨p, rfl⟩
    exact ⟨rfl, rfl⟩
  · exact ⟨rfl, rfl⟩
  · exact ⟨rfl, rfl⟩
  · exact ⟨rfl, rfl⟩
  · exact ⟨rfl, rfl⟩
theorem sumI_rev (xs : List Int) : sumI xs.reverse = sumI xs := by
  induction xs with
  | nil => rfl
  | cons x r ih => rw [List.reverse_cons, sumI_append, ih]; simp only [sumI]; omega
theorem after_mir {ks : List Int} (hs : ∀ k ∈ ks, isStitchB k = true) {st : List Int} (h : takenS ks = st.length) : afterP (mirS ks) st.reverse = (afterP ks st).reverse ∧ okAfter (mirS ks) st.reverse = okAfter ks st ∧ changesP (mirS ks) st.reverse = (changesP ks st).reverse := by
  induction ks generalizing st with
  | nil => exact ⟨rfl, rfl, rfl⟩
  | cons k ks ih =>
    have hk := hs k (by simp)
    have hks : ∀ q ∈ ks, isStitchB q = true := fun q hq => hs q (by simp [hq])
    rw [takenS] at h
    obtain ⟨a, b, rfl, ha⟩ : ∃ a b, st = a ++ b ∧ a.length = takenN k := ⟨st.take (takenN k), st.drop (takenN k), (List.take_append_drop _ _).symm, by rw [List.length_take]; omega⟩
    have hb : takenS ks = b.length := by rw [List.length_append] at h; omega
    obtain ⟨i1, i2, i3⟩ := ih hks hb
    have ht := mirS_taken hks
    obtain ⟨p1, p2, p3⟩ := after_pre (mirS_mem hks) (x := b.reverse) a.reverse (by rw [ht, hb, List.length_reverse]; exact Nat.le_refl _)
    obtain ⟨s1, s2⟩ := step_mir hk ha
    obtain ⟨q1, q2⟩ := step_pre hk b (x := a) (by omega)
    obtain ⟨f1, f2⟩ := after_app (mirS ks) [mirK k] (b.reverse ++ a.reverse)
    have f3 := changesP_append (mirS ks) [mirK k] (b.reverse ++ a.reverse)
    have ed : (b.reverse ++ a.reverse).drop (takenS (mirS ks)) = a.reverse := by
      rw [ht, hb, ← List.length_reverse, List.drop_left]
    have ed2 : (a ++ b).drop (takenN k) = b := by rw [← ha, List.drop_left]
    have et2 : (a ++ b).take (takenN k) = a := by rw [← ha, List.take_left]
    have hmt := (mirK_facts hk).2.2.1
    have et3 : a.reverse.take (takenN (mirK k)) = a.reverse := List.take_of_length_le (by rw [List.length_reverse, hmt]; omega)
    rw [List.reverse_append, mirS_cons]
    refine ⟨?_, ?_, ?_⟩
    · rw [f1, ed, p1, i1, afterP, afterP, afterP, s1, ed2, q1, List.append_nil, List.reverse_append]
    · rw [f2, ed, p2, i2, okAfter, okAfter, okAfter, s2, ed2, q2, Bool.and_true, Bool.and_comm]
    · rw [f3, ed, p3, i3, changesP, changesP, changesP, ed2, List.reverse_cons]
      congr 1
      rw [changeI, changeI, s1, et3, et2, q1, sumI_rev, sumI_rev]
theorem stacksB_rev (st : List Int) : stacksB st.reverse = stacksB st := by simp [stacksB]
theorem stitchesB_mir {ks : List Int} (h : stitchesB ks = true) : stitchesB (mirS ks) = true := by
  obtain ⟨h1, h2⟩ := stitchesB_of h
  unfold stitchesB
  rw [Bool.and_eq_true, List.all_eq_true, decide_eq_true_eq, mirS_length]
  exact ⟨mirS_mem h2, h1⟩
/-- The stacks after a row's mirror image are the mirror image of the stacks after it. -/
theorem stacksAfter_mir {st ks : List Int} (hk : stitchesB ks = true) (ht : takenS ks = st.length) : (stacksAfterP st.reverse (mirS ks)).1 = (stacksAfterP st ks).1.reverse ∧ (stacksAfterP st.reverse (mirS ks)).2 = (stacksAfterP st ks).2 := by
  obtain ⟨_, hs⟩ := stitchesB_of hk
  obtain ⟨m1, m2, _⟩ := after_mir hs ht
  unfold stacksAfterP
  rw [stacksB_rev, stitchesB_mir hk, hk, mirS_taken hs, List.length_reverse, m1, m2, List.length_reverse]
  split
  · split
    · exact ⟨rfl, rfl⟩
    · exact ⟨rfl, rfl⟩
  · exact ⟨rfl, rfl⟩
theorem keep_mir {d : Int} (hd : d = 1 ∨ d = -1) {st ks : List Int} (hs : ∀ k ∈ ks, isStitchB k = true) (ht : takenS ks = st.length) : keepB (-d) st.reverse (mirS ks) = keepB d st ks := by
  unfold keepB
  rw [(after_mir hs ht).2.2, sumI_rev]
  congr 1
  unfold ordL
  rcases hd with rfl | rfl
  · rw [if_pos rfl, if_neg (by decide), List.reverse_reverse]
  · rw [if_neg (by decide), if_pos rfl]
theorem row_mir {st : List Int} {r : RowD} (h : rowOkB st r = true) : rowOkB st.reverse (mirRow r) = true ∧ (stacksAfterP st.reverse (mirRow r).s).1 = (stacksAfterP st r.s).1.reverse := by
  unfold rowOkB at h ⊢
  simp only [Bool.and_eq_true] at h ⊢
  obtain ⟨⟨h1, h2⟩, h3⟩ := h
  obtain ⟨hd, hr, hk, _⟩ := rowB_of h1
  obtain ⟨_, _, ht, _, _⟩ := stepCode_of h2
  obtain ⟨_, hs⟩ := stitchesB_of hk
  obtain ⟨e1, e2⟩ := stacksAfter_mir hk ht
  refine ⟨⟨⟨?_, ?_⟩, ?_⟩, e1⟩
  · unfold rowB dirB carrierB
    simp only [Bool.and_eq_true, Bool.or_eq_true, beq_iff_eq]
    refine ⟨⟨?_, inR_iff.2 hr⟩, stitchesB_mir hk⟩
    rcases hd with e | e <;> simp [mirRow, e]
  · unfold stepCode at h2 ⊢
    rw [show (mirRow r).s = mirS r.s from rfl, e2]
    exact h2
  · rw [show (mirRow r).s = mirS r.s from rfl, show (mirRow r).d = -r.d from rfl, keep_mir hd hs ht]
    exact h3
theorem rows_mir {st : List Int} {rs : List RowD} (h : rowsOkB st rs = true) : rowsOkB st.reverse (rs.map mirRow) = true ∧ stacksFrom st.reverse (rs.map mirRow) = (stacksFrom st rs).map List.reverse := by
  induction rs generalizing st with
  | nil => exact ⟨rfl, rfl⟩
  | cons r rs ih =>
    simp only [rowsOkB, Bool.and_eq_true] at h
    obtain ⟨m1, m2⟩ := row_mir h.1
    obtain ⟨i1, i2⟩ := ih h.2
    rw [List.map_cons, rowsOkB, m1, stacksFrom, m2, i1, i2, stacksFrom, List.map_cons]
    exact ⟨rfl, rfl⟩
/-- The mirror image of a valid chart. -/
theorem chart_mir {n : Int} {rs : List RowD} (h : chartB n rs = true) : chartB n (rs.map mirRow) = true ∧ chartStacks n (rs.map mirRow) = (chartStacks n rs).map List.reverse ∧ (rs.map mirRow).map mirRow = rs := by
  have h0 := h
  unfold chartB at h
  simp only [Bool.and_eq_true] at h
  obtain ⟨m1, m2⟩ := rows_mir h.2
  rw [List.reverse_replicate] at m1 m2
  have hc : chartB n (rs.map mirRow) = true := by
    unfold chartB
    rw [List.length_map, h.1.1, h.1.2, m1]
    rfl
  refine ⟨hc, ?_, ?_⟩
  · rw [chartStacks, if_pos hc, m2, chartStacks, if_pos h0]
  · rw [List.map_map]
    conv => rhs; rw [← List.map_id rs]
    refine List.map_congr_left fun r hr => ?_
    have hk := (rowB_of (rowsOk_rows h.2 r hr)).2.2.1
    have e := mirS_mirS (stitchesB_of hk).2
    unfold mirS at e
    show (⟨- -r.d, r.r, ((r.s.reverse.map mirK).reverse.map mirK)⟩ : RowD) = r
    rw [e, Int.neg_neg]
/-- A chart stacked on itself, and beside itself. -/
theorem rep_self {n : Int} {rs : List RowD} (h : chartB n rs = true) : repCode n rs 2 = stackCode n rs n rs ∧ repX n rs 2 = stackX n rs n rs := by
  have e2 : repRows (2 : Int).toNat rs = rs ++ rs := rfl
  have e1 : repCode n rs 2 = stackCode n rs n rs := by
    unfold repCode stackCode
    rw [if_pos h, if_pos (by decide), e2, h]
    by_cases hl : lastOf n rs = n
    · rw [if_neg (by simp [hl]), if_pos (show (true && true) = true from rfl), if_pos hl]
    · rw [if_pos (by simp [hl]), if_pos (show (true && true) = true from rfl), if_neg hl]
  refine ⟨e1, ?_⟩
  unfold repX stackX
  rw [e1, e2]
theorem sameHeads_self (rs : List RowD) : sameHeads rs rs = true := by
  induction rs with
  | nil => rfl
  | cons r rs ih => simp [sameHeads, sameHead, ih]
theorem bes_self {n : Int} {rs : List RowD} (h : chartB n rs = true) : (besCode n rs n rs = 0 ∧ chartB (n + n) (joinRows rs rs) = true ∧ besX n rs n rs = ⟨n + n, joinRows rs rs⟩) ∨ besCode n rs n rs = 5 := by
  have e : besCode n rs n rs = if chartB (n + n) (joinRows rs rs) then 0 else 5 := by
    unfold besCode
    rw [h, if_pos (by rfl), if_pos rfl, sameHeads_self, if_pos rfl]
  by_cases hc : chartB (n + n) (joinRows rs rs) = true
  · rw [if_pos hc] at e
    exact .inl ⟨e, hc, by rw [besX, if_pos e]⟩
  · rw [if_neg hc] at e
    exact .inr e
theorem cols_from {st : List Int} {rs : List RowD} (h : rowsOkB st rs = true) : (stacksFrom st rs).map (fun s => (s.length : Int)) = rs.map fun r => (madeS r.s : Int) := by
  induction rs generalizing st with
  | nil => rfl
  | cons r rs ih =>
    simp only [rowsOkB, rowOkB, Bool.and_eq_true] at h
    obtain ⟨_, hk, _, ha, _⟩ := stepCode_of h.1.1.2
    rw [stacksFrom, List.map_cons, List.map_cons, ih h.2, ha, afterP_len (stitchesB_of hk).2]
theorem cols_made {n : Int} {rs : List RowD} (h : chartB n rs = true) : colsP n rs = rs.map fun r => (madeS r.s : Int) := by
  have h0 := h
  unfold chartB at h
  simp only [Bool.and_eq_true] at h
  rw [colsP, chartStacks, if_pos h0, cols_from h.2]
theorem join_self (rs : List RowD) : joinRows rs rs = rs.map fun r => joinRow r r := by
  induction rs with
  | nil => rfl
  | cons r rs ih => simp [joinRows, ih]
theorem cols_double {n : Int} {rs : List RowD} (h : chartB n rs = true) (h2 : chartB (n + n) (joinRows rs rs) = true) : colsP (n + n) (joinRows rs rs) = (colsP n rs).map fun x => 2 * x := by
  rw [cols_made h2, cols_made h, join_self, List.map_map, List.map_map]
  refine List.map_congr_left fun r _ => ?_
  show ((madeS (r.s ++ r.s) : Nat) : Int) = 2 * (madeS r.s : Int)
  rw [madeS_append]
  omega

end Go.Proofs.Ytifjdiiafofnpaa

/- Charts: RepeatChart, the given side. -/
namespace Go.Proofs.Ytifjdiiafofnpaa
open Go Go.RowKit

theorem repCode_2 {n : Int} {rs : List RowD} {t : Int} (h : chartB n rs = true) (h2 : inR t 1 8 = true) : repCode n rs t = if decide (1 < t) && !decide (lastOf n rs = n) then 10 else if chartB n (repRows t.toNat rs) then 0 else 5 := by
  unfold repCode
  rw [if_pos h, if_pos h2]
theorem repRows_one (rs : List RowD) : repRows 1 rs = rs := by simp [repRows]


end Go.Proofs.Ytifjdiiafofnpaa

/- Charts: RepeatChart, the program's side. -/
namespace Go.Proofs.Ytifjdiiafofnpaa
open Go Go.RowKit

set_option maxHeartbeats 8000000 in
set_option maxRecDepth 10000 in
theorem impl_RepeatChart (n : Int) (rs : List RowD) (t : Int) (A : Option Addr) (c : Nat) (w : World) (h : RowsR w A rs) (hl : rs.length ≤ 9223372036854775807) :
    Calls Try.prog 24 #[.agg #[.int .i64 n, .slice A rs.length c], .int .i64 t] w fun e w' => ∃ A' c', e = .returned (.tuple #[.agg #[.int .i64 (repX n rs t).n, .slice A' (repX n rs t).xs.length c'], .int .i64 (repCode n rs t)]) ∧ OwnRows w' w.heap.size w'.heap.size A' (repX n rs t).xs.length c' (repX n rs t).xs ∧ Below w.heap.size w w' := by
  have t1 : (43 : TypeId) ≠ 2 := by decide
  have t2 : (43 : TypeId) ≠ 29 := by decide
  have t3 : (2 : TypeId) ≠ 29 := by decide
  obtain ⟨i0, hi0, hy0, hy1, hy2⟩ := info_parts info_Row
  have hb1 : Below w.heap.size w ((w.alloc (.cells #[.int .i64 n, .slice A rs.length c] 43)).alloc (.cells #[.int .i64 0, .slice none 0 0] 43)) := by (repeat (first | exact Below.refl _ _ | assumption | apply Below.drew | apply below_drewN | (refine Below.alloc ?_ (by first | omega | (simp; done) | (simp; omega)) _) | (refine Below.setCell ?_ (by first | omega | (simp; done) | (simp; omega)) _)))
  have ka := (Blk.new w 43 #[.int .i64 n, .slice A rs.length c]).alloc (.cells #[.int .i64 0, .slice none 0 0] 43)
  have kz : Blk ((w.alloc (.cells #[.int .i64 n, .slice A rs.length c] 43)).alloc (.cells #[.int .i64 0, .slice none 0 0] 43)) (w.heap.size + 1) 43 #[.int .i64 0, .slice none 0 0] := by simpa using Blk.new (w.alloc (.cells #[.int .i64 n, .slice A rs.length c] 43)) 43 #[.int .i64 0, .slice none 0 0]
  cases hv : chartB n rs
  · have HF : Hid (repX n rs t = ⟨0, []⟩ ∧ repCode n rs t = 1) := Lib.hid (rep_err (by simp [repCode, hv]) (by decide))
    go_enter Try.func24, Try.ntmps24
    go_wp2_with (fail)
    refine (impl_ValidChart n rs A c _ (h.below hb1) hl).mono ?_; rintro e w2 ⟨rfl, b2⟩
    have hb2 : Below w.heap.size w w2 := hb1.trans (b2.mono (by simp only [World.size_alloc]; omega))
    have kz2 := kz.below b2 (by simp)
    obtain ⟨r0, r1⟩ := kz2.c2
    have g0 := kz2.frozen 0
    have g1 := kz2.frozen 1
    rw [hv]
    go_wp2_with (fail)
    refine bodyPost_ret (v := .tuple #[.agg #[.int .i64 (repX n rs t).n, .slice none (repX n rs t).xs.length 0], .int .i64 (repCode n rs t)]) (by rw [HF.out.1, HF.out.2]; simp [results, Try.results24, go_sem, r0, r1]) rfl ⟨none, 0, rfl, ?_, ?_⟩
    · rw [HF.out.1]; exact OwnRows.nil _ _ _
    · (repeat (first | exact Below.refl _ _ | assumption | apply Below.drew | apply below_drewN | (refine Below.alloc ?_ (by first | omega | (simp; done) | (simp; omega)) _) | (refine Below.setCell ?_ (by first | omega | (simp; done) | (simp; omega)) _)))
  · cases ht : inR t 1 8
    · have HF : Hid (repX n rs t = ⟨0, []⟩ ∧ repCode n rs t = 2) := Lib.hid (rep_err (by simp [repCode, hv, ht]) (by decide))
      go_enter Try.func24, Try.ntmps24
      go_wp2_with (fail)
      refine (impl_ValidChart n rs A c _ (h.below hb1) hl).mono ?_; rintro e w2 ⟨rfl, b2⟩
      have hb2 : Below w.heap.size w w2 := hb1.trans (b2.mono (by simp only [World.size_alloc]; omega))
      have kz2 := kz.below b2 (by simp)
      obtain ⟨r0, r1⟩ := kz2.c2
      have g0 := kz2.frozen 0
      have g1 := kz2.frozen 1
      rw [hv]
      go_wp2_with (go_at_call 70; refine (impl_within _ _ _ _).mono ?_; rintro e _ ⟨rfl, rfl⟩; rw [ht])
      refine bodyPost_ret (v := .tuple #[.agg #[.int .i64 (repX n rs t).n, .slice none (repX n rs t).xs.length 0], .int .i64 (repCode n rs t)]) (by rw [HF.out.1, HF.out.2]; simp [results, Try.results24, go_sem, r0, r1]) rfl ⟨none, 0, rfl, ?_, ?_⟩
      · rw [HF.out.1]; exact OwnRows.nil _ _ _
      · (repeat (first | exact Below.refl _ _ | assumption | apply Below.drew | apply below_drewN | (refine Below.alloc ?_ (by first | omega | (simp; done) | (simp; omega)) _) | (refine Below.setCell ?_ (by first | omega | (simp; done) | (simp; omega)) _)))
    · have HC := Lib.hid (repCode_2 hv ht)
      have h8 := lens_of_chart hv
      obtain ⟨h8, hs8⟩ := h8
      have HS8 := Lib.hid hs8; clear hs8
      have HV := Lib.hid hv
      have ht18 := inR_iff.1 ht
      obtain ⟨ht1, ht8⟩ := ht18
      obtain ⟨T, rfl⟩ := Int.eq_ofNat_of_zero_le (show (0 : Int) ≤ t by omega)
      go_enter Try.func24, Try.ntmps24
      go_wp2_with (fail)
      refine (impl_ValidChart n rs A c _ (h.below hb1) hl).mono ?_; rintro e w2 ⟨rfl, b2⟩
      have hb2 : Below w.heap.size w w2 := hb1.trans (b2.mono (by simp only [World.size_alloc]; omega))
      have ka2 := ka.below b2 (by simp; omega)
      have kz2 := kz.below b2 (by simp)
      have z2 : w.heap.size + 2 ≤ w2.heap.size := kz2.lt
      rw [hv]
      clear hv ka kz hb1 b2
      go_wp2_with (go_at_call 70; refine (impl_within _ _ _ _).mono ?_; rintro e _ ⟨rfl, rfl⟩; rw [ht])
      clear ht
      by_cases hT1 : (1 : Int) < (T : Int)
      case' neg =>
        have hd1 : decide ((1 : Int) < (T : Int)) = false := decide_eq_false hT1
        have HC2 : Hid (repCode n rs T = if chartB n (repRows T rs) then 0 else 5) := Lib.hid (by rw [HC.out, hd1]; simp)
        (refine wp_region_pops 0 (S := (fun W' => W'.cell? ⟨w.heap.size, 0, none⟩ = some (.int .i64 n) ∧ W'.cell? ⟨w.heap.size, 1, none⟩ = some (.slice A rs.length c))) (pre := ?_) (T := ?_) (n := ?_) (by kernel_rfl) (by kernel_rfl) ?_ ?_ ?_ ?_ (fun hHeld => ?_); rotate_left 3; (focus (simp only [pops]; rfl)); (focus (simp only [tailOf]; rfl)); (focus rfl); (focus (exact ka2.c2)))
        ((refine wpAnyH_take (i := 0) (v := ?_) rfl (by kernel_rfl) (by kernel_rfl) (by kernel_rfl) (fun _ _ _ h => h) (Or.inl ⟨by rfl, ?_⟩) (by assumption) ?_; rotate_left; (focus (intro W hSw; (try dsimp only at hSw); go_simp; try (with_reducible rfl)))); (try simp only [List.getElem_toArray, List.getElem_cons_zero, Act.put, List.setIfInBounds_toArray, List.set_cons_zero, List.set_cons_succ]); (refine wpAnyH_take (i := 1) (v := ?_) rfl (by kernel_rfl) (by kernel_rfl) (by kernel_rfl) (fun _ _ _ h => h) (Or.inl ⟨by rfl, ?_⟩) (by assumption) ?_; rotate_left; (focus (intro W hSw; (try dsimp only at hSw); go_simp; try (with_reducible rfl)))); (try simp only [List.getElem_toArray, List.getElem_cons_zero, List.getElem_cons_succ, Act.put, List.setIfInBounds_toArray, List.set_cons_zero, List.set_cons_succ]); (refine wpAnyH_take (i := 2) (v := ?_) rfl (by kernel_rfl) (by kernel_rfl) (by kernel_rfl) (fun _ _ _ h => h) (Or.inl ⟨by rfl, ?_⟩) (by assumption) ?_; rotate_left; (focus (intro W hSw; (try dsimp only at hSw); go_simp; try (with_reducible rfl)))); (try simp only [List.getElem_toArray, List.getElem_cons_zero, List.getElem_cons_succ, Act.put, List.setIfInBounds_toArray, List.set_cons_zero, List.set_cons_succ]))
        ((refine wpAnyH_take (i := 3) (v := undef) rfl (by kernel_rfl) (by kernel_rfl) (by kernel_rfl) (fun _ _ _ h => h) (Or.inr ⟨by rfl, rfl⟩) (by assumption) ?_); (try simp only [List.getElem_toArray, List.getElem_cons_zero, List.getElem_cons_succ, Act.put, List.setIfInBounds_toArray, List.set_cons_zero, List.set_cons_succ]); (refine wpAnyH_take (i := 4) (v := undef) rfl (by kernel_rfl) (by kernel_rfl) (by kernel_rfl) (fun _ _ _ h => h) (Or.inr ⟨by rfl, rfl⟩) (by assumption) ?_); (try simp only [List.getElem_toArray, List.getElem_cons_zero, List.getElem_cons_succ, Act.put, List.setIfInBounds_toArray, List.set_cons_zero, List.set_cons_succ]); (refine wpAnyH_take (i := 5) (v := undef) rfl (by kernel_rfl) (by kernel_rfl) (by kernel_rfl) (fun _ _ _ h => h) (Or.inr ⟨by rfl, rfl⟩) (by assumption) ?_); (try simp only [List.getElem_toArray, List.getElem_cons_zero, List.getElem_cons_succ, Act.put, List.setIfInBounds_toArray, List.set_cons_zero, List.set_cons_succ]); (refine wpAnyH_take (i := 6) (v := undef) rfl (by kernel_rfl) (by kernel_rfl) (by kernel_rfl) (fun _ _ _ h => h) (Or.inr ⟨by rfl, rfl⟩) (by assumption) ?_); (try simp only [List.getElem_toArray, List.getElem_cons_zero, List.getElem_cons_succ, Act.put, List.setIfInBounds_toArray, List.set_cons_zero, List.set_cons_succ]); (refine wpAnyH_take (i := 7) (v := undef) rfl (by kernel_rfl) (by kernel_rfl) (by kernel_rfl) (fun _ _ _ h => h) (Or.inr ⟨by rfl, rfl⟩) (by assumption) ?_); (try simp only [List.getElem_toArray, List.getElem_cons_zero, List.getElem_cons_succ, Act.put, List.setIfInBounds_toArray, List.set_cons_zero, List.set_cons_succ]))
        ((refine wpAnyH_take (i := 8) (v := ?_) rfl (by kernel_rfl) (by kernel_rfl) (by kernel_rfl) (fun _ _ _ h => h) (Or.inl ⟨by rfl, ?_⟩) (by assumption) ?_; rotate_left; (focus (intro W hSw; (try dsimp only at hSw); go_simp; try (with_reducible rfl)))); (try simp only [List.getElem_toArray, List.getElem_cons_zero, List.getElem_cons_succ, Act.put, List.setIfInBounds_toArray, List.set_cons_zero, List.set_cons_succ]); (refine wpAnyH_take (i := 9) (v := ?_) rfl (by kernel_rfl) (by kernel_rfl) (by kernel_rfl) (fun _ _ _ h => h) (Or.inl ⟨by rfl, ?_⟩) (by assumption) ?_; rotate_left; (focus (intro W hSw; (try dsimp only at hSw); go_simp; try (with_reducible rfl)))); (try simp only [List.getElem_toArray, List.getElem_cons_zero, List.getElem_cons_succ, Act.put, List.setIfInBounds_toArray, List.set_cons_zero, List.set_cons_succ]))
        (refine wpAnyH_done (by kernel_rfl) ?_ _; change wpList _ _ _ _ _ _)
        obtain ⟨w4, hw4⟩ : ∃ w4, w4 = World.drew w2 := ⟨_, rfl⟩
        have hb4 : Below w.heap.size w w4 := by rw [hw4]; exact hb2.drew
        have ka4 : Blk w4 w.heap.size 43 #[.int .i64 n, .slice A rs.length c] := by rw [hw4]; exact ka2.drew1
        have kz4 : Blk w4 (w.heap.size + 1) 43 #[.int .i64 0, .slice none 0 0] := by rw [hw4]; exact kz2.drew1
        rw [← hw4]
        clear hw4 hHeld
        obtain ⟨q0, q1⟩ := ka4.c2
        obtain ⟨q2, q3⟩ := (ka4.alloc (.cells #[.int .i64 n, .slice none 0 0] 43)).c2
        go_wp2_with (fail)
        clear hT1 hd1 q0 q1 q2 q3
      case' pos =>
        have hd1 : decide ((1 : Int) < (T : Int)) = true := decide_eq_true hT1
        (refine wp_region_pops 0 (S := (fun W' => W'.cell? ⟨w.heap.size, 0, none⟩ = some (.int .i64 n) ∧ W'.cell? ⟨w.heap.size, 1, none⟩ = some (.slice A rs.length c))) (pre := ?_) (T := ?_) (n := ?_) (by kernel_rfl) (by kernel_rfl) ?_ ?_ ?_ ?_ (fun hHeld => ?_); rotate_left 3; (focus (simp only [pops]; rfl)); (focus (simp only [tailOf]; rfl)); (focus rfl); (focus (exact ka2.c2)))
        ((refine wpAnyH_take (i := 0) (v := ?_) rfl (by kernel_rfl) (by kernel_rfl) (by kernel_rfl) (fun _ _ _ h => h) (Or.inl ⟨by rfl, ?_⟩) (by assumption) ?_; rotate_left; (focus (intro W hSw; (try dsimp only at hSw); go_simp; try (with_reducible rfl)))); (try simp only [List.getElem_toArray, List.getElem_cons_zero, Act.put, List.setIfInBounds_toArray, List.set_cons_zero, List.set_cons_succ]); (refine wpAnyH_take (i := 1) (v := ?_) rfl (by kernel_rfl) (by kernel_rfl) (by kernel_rfl) (fun _ _ _ h => h) (Or.inl ⟨by rfl, ?_⟩) (by assumption) ?_; rotate_left; (focus (intro W hSw; (try dsimp only at hSw); go_simp; try (with_reducible rfl)))); (try simp only [List.getElem_toArray, List.getElem_cons_zero, List.getElem_cons_succ, Act.put, List.setIfInBounds_toArray, List.set_cons_zero, List.set_cons_succ]); (refine wpAnyH_take (i := 2) (v := ?_) rfl (by kernel_rfl) (by kernel_rfl) (by kernel_rfl) (fun _ _ _ h => h) (Or.inl ⟨by rfl, ?_⟩) (by assumption) ?_; rotate_left; (focus (intro W hSw; (try dsimp only at hSw); go_simp; try (with_reducible rfl)))); (try simp only [List.getElem_toArray, List.getElem_cons_zero, List.getElem_cons_succ, Act.put, List.setIfInBounds_toArray, List.set_cons_zero, List.set_cons_succ]); (refine wpAnyH_take (i := 3) (v := ?_) rfl (by kernel_rfl) (by kernel_rfl) (by kernel_rfl) (fun _ _ _ h => h) (Or.inl ⟨by rfl, ?_⟩) (by assumption) ?_; rotate_left; (focus (intro W hSw; (try dsimp only at hSw); go_simp; try (with_reducible rfl)))); (try simp only [List.getElem_toArray, List.getElem_cons_zero, List.getElem_cons_succ, Act.put, List.setIfInBounds_toArray, List.set_cons_zero, List.set_cons_succ]); (refine wpAnyH_take (i := 5) (v := ?_) rfl (by kernel_rfl) (by kernel_rfl) (by kernel_rfl) (fun _ _ _ h => h) (Or.inl ⟨by rfl, ?_⟩) (by assumption) ?_; rotate_left; (focus (intro W hSw; (try dsimp only at hSw); go_simp; try (with_reducible rfl)))); (try simp only [List.getElem_toArray, List.getElem_cons_zero, List.getElem_cons_succ, Act.put, List.setIfInBounds_toArray, List.set_cons_zero, List.set_cons_succ]); (refine wpAnyH_take (i := 6) (v := ?_) rfl (by kernel_rfl) (by kernel_rfl) (by kernel_rfl) (fun _ _ _ h => h) (Or.inl ⟨by rfl, ?_⟩) (by assumption) ?_; rotate_left; (focus (intro W hSw; (try dsimp only at hSw); go_simp; try (with_reducible rfl)))); (try simp only [List.getElem_toArray, List.getElem_cons_zero, List.getElem_cons_succ, Act.put, List.setIfInBounds_toArray, List.set_cons_zero, List.set_cons_succ]))
        (refine wpAnyH_ready (rs := [4]) (by kernel_rfl) (by simp) ?_; refine AllReadyH.cons rfl (fun K hK => ?_) AllReadyH.nil)
        go_simp
        refine (impl_columnsAtEnd n rs A c _ (h.below hb2).drew1 hl HV.out).mono ?_; rintro e w4 ⟨rfl, b4'⟩
        have b4 := undrew b4'
        have hb4 : Below w.heap.size w w4 := hb2.trans (b4.mono (by omega))
        have ka4 := ka2.below b4 (by omega)
        have kz4 := kz2.below b4 (by omega)
        refine hK.out _ _ ka4.c2 (fun hHeld => ?_)
        clear hK K b4'
        (try simp only [List.getElem_toArray, List.getElem_cons_zero, List.getElem_cons_succ, Act.put, List.setIfInBounds_toArray, List.set_cons_zero, List.set_cons_succ])
        generalize lastOf n rs = L at HC ⊢
        by_cases hlm : L = n
        case' neg =>
          have hlm' : (L != n) = true := by simpa using hlm
          have HF : Hid (repX n rs T = ⟨0, []⟩ ∧ repCode n rs T = 10) := Lib.hid (rep_err (by rw [HC.out, hd1]; simp [hlm]) (by decide))
          clear hlm
          obtain ⟨r0, r1⟩ := kz4.c2
          have g0 := kz4.frozen 0
          have g1 := kz4.frozen 1
          ((refine wpAnyH_take (i := 7) (v := ?_) rfl (by kernel_rfl) (by kernel_rfl) (by kernel_rfl) (fun _ _ _ h => h) (Or.inl ⟨by rfl, ?_⟩) (by assumption) ?_; rotate_left; (focus (intro W hSw; (try dsimp only at hSw); go_simp; try (with_reducible rfl)))); (try simp only [List.getElem_toArray, List.getElem_cons_zero, List.getElem_cons_succ, Act.put, List.setIfInBounds_toArray, List.set_cons_zero, List.set_cons_succ]); (refine wpAnyH_take (i := 8) (v := ?_) rfl (by kernel_rfl) (by kernel_rfl) (by kernel_rfl) (fun _ _ _ h => h) (Or.inl ⟨by rfl, ?_⟩) (by assumption) ?_; rotate_left; (focus (intro W hSw; (try dsimp only at hSw); go_simp; try (with_reducible rfl)))); (try simp only [List.getElem_toArray, List.getElem_cons_zero, List.getElem_cons_succ, Act.put, List.setIfInBounds_toArray, List.set_cons_zero, List.set_cons_succ]); (refine wpAnyH_take (i := 9) (v := ?_) rfl (by kernel_rfl) (by kernel_rfl) (by kernel_rfl) (fun _ _ _ h => h) (Or.inl ⟨by rfl, ?_⟩) (by assumption) ?_; rotate_left; (focus (intro W hSw; (try dsimp only at hSw); go_simp; try (with_reducible rfl)))); (try simp only [List.getElem_toArray, List.getElem_cons_zero, List.getElem_cons_succ, Act.put, List.setIfInBounds_toArray, List.set_cons_zero, List.set_cons_succ]))
          (refine wpAnyH_done (by kernel_rfl) ?_ _; change wpList _ _ _ _ _ _)
          go_wp2_with (fail)
          refine bodyPost_ret (v := .tuple #[.agg #[.int .i64 (repX n rs T).n, .slice none (repX n rs T).xs.length 0], .int .i64 (repCode n rs T)]) (by rw [HF.out.1, HF.out.2]; simp [results, Try.results24, go_sem, r0, r1]) rfl ⟨none, 0, rfl, by rw [HF.out.1]; exact OwnRows.nil _ _ _, by (repeat (first | exact Below.refl _ _ | assumption | apply Below.drew | apply below_drewN | (refine Below.alloc ?_ (by first | omega | (simp; done) | (simp; omega)) _) | (refine Below.setCell ?_ (by first | omega | (simp; done) | (simp; omega)) _)))⟩
        case' pos =>
          have hlm' : (L != n) = false := by simp [hlm]
          have HC2 : Hid (repCode n rs T = if chartB n (repRows T rs) then 0 else 5) := Lib.hid (by rw [HC.out, hd1]; simp [hlm])
          have HLM := Lib.hid hlm; clear hlm
          ((refine wpAnyH_take (i := 7) (v := ?_) rfl (by kernel_rfl) (by kernel_rfl) (by kernel_rfl) (fun _ _ _ h => h) (Or.inl ⟨by rfl, ?_⟩) (by assumption) ?_; rotate_left; (focus (intro W hSw; (try dsimp only at hSw); go_simp; try (with_reducible rfl)))); (try simp only [List.getElem_toArray, List.getElem_cons_zero, List.getElem_cons_succ, Act.put, List.setIfInBounds_toArray, List.set_cons_zero, List.set_cons_succ]); (refine wpAnyH_take (i := 8) (v := ?_) rfl (by kernel_rfl) (by kernel_rfl) (by kernel_rfl) (fun _ _ _ h => h) (Or.inl ⟨by rfl, ?_⟩) (by assumption) ?_; rotate_left; (focus (intro W hSw; (try dsimp only at hSw); go_simp; try (with_reducible rfl)))); (try simp only [List.getElem_toArray, List.getElem_cons_zero, List.getElem_cons_succ, Act.put, List.setIfInBounds_toArray, List.set_cons_zero, List.set_cons_succ]); (refine wpAnyH_take (i := 9) (v := ?_) rfl (by kernel_rfl) (by kernel_rfl) (by kernel_rfl) (fun _ _ _ h => h) (Or.inl ⟨by rfl, ?_⟩) (by assumption) ?_; rotate_left; (focus (intro W hSw; (try dsimp only at hSw); go_simp; try (with_reducible rfl)))); (try simp only [List.getElem_toArray, List.getElem_cons_zero, List.getElem_cons_succ, Act.put, List.setIfInBounds_toArray, List.set_cons_zero, List.set_cons_succ]))
          (refine wpAnyH_done (by kernel_rfl) ?_ _; change wpList _ _ _ _ _ _)
          clear hHeld
          obtain ⟨q0, q1⟩ := ka4.c2
          obtain ⟨q2, q3⟩ := (ka4.alloc (.cells #[.int .i64 n, .slice none 0 0] 43)).c2
          go_wp2_with (fail)
          clear q0 q1 q2 q3
      all_goals
        have z4 : w.heap.size + 2 ≤ w4.heap.size := kz4.lt
        have hb4a : Below w.heap.size w (w4.alloc (.cells #[.int .i64 n, .slice none 0 0] 43)) := hb4.alloc (by omega) _
        have ka4a := ka4.alloc (.cells #[.int .i64 n, .slice none 0 0] 43)
        have kz4a := kz4.alloc (.cells #[.int .i64 n, .slice none 0 0] 43)
        have kx4a := Blk.new w4 43 #[.int .i64 n, .slice none 0 0]
        clear ka4 kz4 hb4 ka2 kz2 hb2
        go_loopw [32] (fun iv wr => ∃ (j : Nat) (A' : Option Addr) (c' : Nat), j ≤ T ∧ iv = .int .i64 j ∧ Blk wr w.heap.size 43 #[.int .i64 n, .slice A rs.length c] ∧ Blk wr (w.heap.size + 1) 43 #[.int .i64 0, .slice none 0 0] ∧ Blk wr w4.heap.size 43 #[.int .i64 n, .slice A' (repRows j rs).length c'] ∧ OwnRows wr (w4.heap.size + 1) wr.heap.size A' (repRows j rs).length c' (repRows j rs) ∧ Below w.heap.size w wr) (fun iv _ => T - (intOf iv).toNat)
        case atStart =>
          exact ⟨0, none, 0, by omega, rfl, ka4a, kz4a, kx4a, OwnRows.nil _ _ _, hb4a⟩
        case round =>
          clear ka4a kz4a kx4a hb4a
          obtain ⟨j, A', c', hjT, rfl, kar, kzr, kxr, oor, hbr⟩ := hrel
          have hxl := kxr.lt
          have hzr := hbr.size
          have hLR : (repRows j rs).length ≤ 64 := by rw [repRows_length]; have := Nat.mul_le_mul (show j ≤ 8 by omega) h8; omega
          by_cases hjl : j < T
          · have HLJ : Hid (repRows (j + 1) rs = repRows j rs ++ rs) := Lib.hid rfl
            generalize repRows j rs = qs at kxr oor hLR HLJ ⊢
            go_wp2_with (fail)
            (refine wp_region_pops 3 (S := (fun W' => W'.cell? ⟨w4.heap.size, 1, none⟩ = some (.slice A' qs.length c') ∧ W'.cell? ⟨w.heap.size, 1, none⟩ = some (.slice A rs.length c))) (pre := ?_) (T := ?_) (n := ?_) (by kernel_rfl) (by kernel_rfl) ?_ ?_ ?_ ?_ (fun hHeld => ?_); rotate_left 3; (focus (simp only [pops, List.pop_toArray, List.dropLast_cons_cons, List.dropLast_singleton]; rfl)); (focus (simp only [tailOf, List.pop_toArray, List.dropLast_cons_cons, List.dropLast_singleton, List.back?_toArray, List.getLast?_cons_cons, List.getLast?_singleton, Option.toList_some, List.nil_append, List.cons_append]; rfl)); (focus rfl); (focus (exact ⟨kxr.c2.2, kar.c2.2⟩)))
            ((refine wpAnyH_take (i := 0) (v := ?_) rfl (by kernel_rfl) (by kernel_rfl) (by kernel_rfl) (fun _ _ _ h => h) (Or.inl ⟨by rfl, ?_⟩) (by assumption) ?_; rotate_left; (focus (intro W hSw; (try dsimp only at hSw); go_simp; try (with_reducible rfl)))); (try simp only [List.getElem_toArray, List.getElem_cons_zero, Act.put, List.setIfInBounds_toArray, List.set_cons_zero, List.set_cons_succ]); (refine wpAnyH_take (i := 1) (v := ?_) rfl (by kernel_rfl) (by kernel_rfl) (by kernel_rfl) (fun _ _ _ h => h) (Or.inl ⟨by rfl, ?_⟩) (by assumption) ?_; rotate_left; (focus (intro W hSw; (try dsimp only at hSw); go_simp; try (with_reducible rfl)))); (try simp only [List.getElem_toArray, List.getElem_cons_zero, List.getElem_cons_succ, Act.put, List.setIfInBounds_toArray, List.set_cons_zero, List.set_cons_succ]); (refine wpAnyH_take (i := 2) (v := ?_) rfl (by kernel_rfl) (by kernel_rfl) (by kernel_rfl) (fun _ _ _ h => h) (Or.inl ⟨by rfl, ?_⟩) (by assumption) ?_; rotate_left; (focus (intro W hSw; (try dsimp only at hSw); go_simp; try (with_reducible rfl)))); (try simp only [List.getElem_toArray, List.getElem_cons_zero, List.getElem_cons_succ, Act.put, List.setIfInBounds_toArray, List.set_cons_zero, List.set_cons_succ]); (refine wpAnyH_take (i := 3) (v := ?_) rfl (by kernel_rfl) (by kernel_rfl) (by kernel_rfl) (fun _ _ _ h => h) (Or.inl ⟨by rfl, ?_⟩) (by assumption) ?_; rotate_left; (focus (intro W hSw; (try dsimp only at hSw); go_simp; try (with_reducible rfl)))); (try simp only [List.getElem_toArray, List.getElem_cons_zero, List.getElem_cons_succ, Act.put, List.setIfInBounds_toArray, List.set_cons_zero, List.set_cons_succ]))
            (refine wpAnyH_ready (rs := [4]) (by kernel_rfl) (by simp) ?_; refine AllReadyH.cons rfl (fun K hK => ?_) AllReadyH.nil)
            go_simp
            refine (impl_copyRows rs A c _ (h.below hbr).drew1 (by omega) (fun r hr => by have := HS8.out r hr; omega)).mono ?_; rintro e w7 ⟨A7, c7, rfl, o7, b7'⟩
            have b7 := undrew b7'
            replace o7 : OwnRows w7 wr.heap.size w7.heap.size A7 rs.length c7 rs := o7
            have z7 := b7.size
            have ka7 := kar.below b7 (by omega)
            have kz7 := kzr.below b7 (by omega)
            have kx7 := kxr.below b7 (by omega)
            refine hK.out _ _ ⟨kx7.c2.2, ka7.c2.2⟩ (fun hHeld => ?_)
            clear hK K b7'
            (try simp only [List.getElem_toArray, List.getElem_cons_zero, List.getElem_cons_succ, Act.put, List.setIfInBounds_toArray, List.set_cons_zero, List.set_cons_succ])
            (refine wpAnyH_done (by kernel_rfl) ?_ _; change wpList _ _ _ _ _ _)
            clear hHeld
            have oor7 := oor.below b7 (Nat.le_refl _)
            have hb7 : Below w.heap.size w w7 := hbr.trans (b7.mono (by omega))
            obtain ⟨cs1, oc1, cr1⟩ := oor7.ex
            obtain ⟨cs2, oc2, cr2⟩ := o7.ex
            have H2 := Lib.hid oc2.cellsAt
            have H1 := Lib.hid cr2.one
            have HLL := Lib.hid (oc2.len)
            have HKX : Hid (∀ w8, w7.grownBy w8 (Value.slice A' qs.length c').ownBlock → Blk w8 w4.heap.size 43 #[.int .i64 n, .slice A' qs.length c']) := Lib.hid (fun w8 hg => kx7.grownT oc1 t2 hg)
            go_wp2_with (at_builtin; refine wpList_appendC w7 rfl (.tmp 35) (.tmp 38) _ rfl 29 i0 _ 3 40 Try.underlying41 hi0 hy0 hy1 hy2 rfl (by decide) rfl oc1 (by omega) A7 rs.length c7 cs2 rfl HLL.out H2.out H1.out (by unfold maxLen; omega) (by omega) ?_; intro A8 c8 w8 ho8 hg8 hb8; have kx8 := HKX.out w8 hg8; obtain ⟨x0', x1'⟩ := kx8.c2; have x2' := kx8.frozen 1)
            have kx8 := HKX.out w8 hg8
            have ka8 := ka7.grownT oc1 t2 hg8
            have kz8 := kz7.grownT oc1 t2 hg8
            have cr1' := cr1.grownT oc1 t3 hg8
            have cr2' := cr2.grownT oc1 t3 hg8
            have hz8 := hg8.size
            have crr := (cr1'.append cr2' (by omega) (by omega)).mono (lo' := w4.heap.size + 1) (hi' := w8.heap.size) (Nat.le_refl _) (by omega)
            have hb8' : Below w.heap.size w w8 := hb7.trans (hb8.mono (by omega))
            have oo : OwnRows (w8.setCell ⟨w4.heap.size, 1, none⟩ (.slice A8 (qs.length + rs.length) c8)) (w4.heap.size + 1) w8.heap.size A8 (qs ++ rs).length c8 (qs ++ rs) := by
              rw [List.length_append]
              exact ⟨_, ho8.farT kx8 t2 1 _, crr.farT kx8 t1 1 _⟩
            refine ⟨⟨j + 1, A8, c8, by omega, by go_num, ka8.far (by show w.heap.size ≠ w4.heap.size; omega) _, kz8.far (by show w.heap.size + 1 ≠ w4.heap.size; omega) _, ?_, ?_, by (repeat (first | exact Below.refl _ _ | assumption | apply Below.drew | apply below_drewN | (refine Below.alloc ?_ (by first | omega | (simp; done) | (simp; omega)) _) | (refine Below.setCell ?_ (by first | omega | (simp; done) | (simp; omega)) _)))⟩, by first | (simp [intOf]; done) | (simp [intOf]; omega)⟩
            · rw [HLJ.out, List.length_append]; exact kx8.set21 _
            · rw [HLJ.out]; exact oo.mono (Nat.le_refl _) (by simp)
          · obtain rfl : j = T := by omega
            obtain ⟨x0, x1⟩ := kxr.c2
            go_wp2_with (fail)
            generalize hqs : repRows j rs = qs at kxr oor hLR HC2 ⊢
            have HQ := Lib.hid hqs; clear hqs
            refine (impl_ifChart n qs A' c' _ oor.rowsR (by omega)).mono ?_; rintro e w10 ⟨rfl, b10⟩
            have z10 := b10.size
            have kz10 := kzr.below b10 (by omega)
            have oo10 := oor.below b10 (Nat.le_refl _)
            have hb10 : Below w.heap.size w w10 := hbr.trans (b10.mono (by omega))
            obtain ⟨r0, r1⟩ := kz10.c2
            have g0 := kz10.frozen 0
            have g1 := kz10.frozen 1
            cases hq : chartB n qs
            · have HF : Hid (repX n rs j = ⟨0, []⟩ ∧ repCode n rs j = 5) := Lib.hid (rep_err (by rw [HC2.out]; simp [hq]) (by decide))
              go_wp2_with (fail)
              refine bodyPost_ret (v := .tuple #[.agg #[.int .i64 (repX n rs j).n, .slice none (repX n rs j).xs.length 0], .int .i64 (repCode n rs j)]) (by rw [HF.out.1, HF.out.2]; simp [results, Try.results24, go_sem, r0, r1]) rfl ⟨none, 0, rfl, ?_, ?_⟩
              · rw [HF.out.1]; exact OwnRows.nil _ _ _
              · (repeat (first | exact Below.refl _ _ | assumption | apply Below.drew | apply below_drewN | (refine Below.alloc ?_ (by first | omega | (simp; done) | (simp; omega)) _) | (refine Below.setCell ?_ (by first | omega | (simp; done) | (simp; omega)) _)))
            · have HF : Hid (repX n rs j = ⟨n, qs⟩ ∧ repCode n rs j = 0) := Lib.hid (by
                have e : repCode n rs j = 0 := by rw [HC2.out]; simp [hq]
                exact ⟨by rw [repX, if_pos e, Int.toNat_natCast, HQ.out], e⟩)
              go_wp2_with (fail)
              refine bodyPost_ret (v := .tuple #[.agg #[.int .i64 (repX n rs j).n, .slice A' (repX n rs j).xs.length c'], .int .i64 (repCode n rs j)]) (by rw [HF.out.1, HF.out.2]; simp [results, Try.results24, go_sem, r0, r1]) rfl ⟨A', c', rfl, ?_, ?_⟩
              · rw [HF.out.1]
                have k1 := kz10.set20 (.int .i64 n)
                exact ((oo10.farT kz10 t1 t2 0 _).farT k1 t1 t2 1 _).mono (by omega) (by simp; omega)
              · (repeat (first | exact Below.refl _ _ | assumption | apply Below.drew | apply below_drewN | (refine Below.alloc ?_ (by first | omega | (simp; done) | (simp; omega)) _) | (refine Below.setCell ?_ (by first | omega | (simp; done) | (simp; omega)) _)))

end Go.Proofs.Ytifjdiiafofnpaa
