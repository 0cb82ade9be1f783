/- Steps of the proof, joined from several texts: ZM NP NS NM EA EB. -/
import Derived.Test.YtifjdiiafofnpaaZ9
import Derived.Test.YtifjdiiafofnpaaZ7
import Derived.Test.YtifjdiiafofnpaaZ10
import Derived.Test.YtifjdiiafofnpaaZ5
import Derived.Test.YtifjdiiafofnpaaZ2
import Derived.Test.YtifjdiiafofnpaaZ4
import Derived.Deep.RegionLaw
import Derived.RegionTactic
import Derived.Test.YtifjdiiafofnpaaZ12
import Derived.Deep.DeepCutAuto

/- Cables of permutations, plain: the rows of letters that do not touch, their letters, the chart of a braid is a valid cable. -/
namespace Go.Proofs.Ytifjdiiafofnpaa
open Go.RowKit

/-- Letters of which no two touch. -/
def Apart2 (xs : List Int) : Prop := xs.Pairwise fun a b => a.natAbs + 2 ≤ b.natAbs ∨ b.natAbs + 2 ≤ a.natAbs
def Letters (n : Nat) (xs : List Int) : Prop := ∀ x ∈ xs, 1 ≤ x.natAbs ∧ x.natAbs < n
def rowL (n : Nat) (xs : List Int) (c : Nat) : List Int := lettersFrom (rowFrom n xs c) c
theorem touchB_iff (a b : Int) : touchB a b = false ↔ a.natAbs + 2 ≤ b.natAbs ∨ b.natAbs + 2 ≤ a.natAbs := by
  have ea : absI a = (a.natAbs : Int) := by unfold absI; split <;> omega
  have eb : absI b = (b.natAbs : Int) := by unfold absI; split <;> omega
  unfold touchB
  rw [ea, eb, ← Bool.not_eq_true, inR_iff]
  omega
theorem apart_snoc {xs : List Int} {x : Int} (h : Apart2 xs) (ht : touchAny xs x = false) : Apart2 (xs ++ [x]) := by
  unfold Apart2
  rw [List.pairwise_append]
  refine ⟨h, by simp, fun a ha b hb => ?_⟩
  rw [List.mem_singleton.1 hb]
  unfold touchAny at ht
  rw [List.any_eq_false] at ht
  exact (touchB_iff a x).1 (by simpa using ht a ha)
theorem packFrom_apart (s : List (List Int) × List Int) (xs : List Int) (h1 : ∀ g ∈ s.1, Apart2 g) (h2 : Apart2 s.2) : (∀ g ∈ (packFrom s xs).1, Apart2 g) ∧ Apart2 (packFrom s xs).2 := by
  induction xs generalizing s with
  | nil => exact ⟨h1, h2⟩
  | cons x xs ih =>
    have e : packFrom s (x :: xs) = packFrom (packStep s x) xs := rfl
    rw [e]
    unfold packStep
    cases ht : touchAny s.2 x
    · rw [if_neg (by decide)]
      exact ih _ h1 (apart_snoc h2 ht)
    · rw [if_pos rfl]
      refine ih _ (fun g hg => ?_) (by simp [Apart2])
      rcases List.mem_append.1 hg with hg | hg
      · exact h1 g hg
      · rw [List.mem_singleton.1 hg]; exact h2
theorem packFrom_flat (s : List (List Int) × List Int) (xs : List Int) : (packFrom s xs).1.flatten ++ (packFrom s xs).2 = s.1.flatten ++ s.2 ++ xs := by
  induction xs generalizing s with
  | nil => simp [packFrom]
  | cons x xs ih =>
    have e : packFrom s (x :: xs) = packFrom (packStep s x) xs := rfl
    rw [e, ih]
    unfold packStep
    split <;> simp
theorem groups_facts (xs : List Int) : (∀ g ∈ groupsOf xs, Apart2 g) ∧ (groupsOf xs).flatten = xs ∧ 1 ≤ (groupsOf xs).length := by
  unfold groupsOf
  cases xs with
  | nil => simp [pack, Apart2]
  | cons x xs =>
    have h1 := packFrom_apart ([], [x]) xs (by simp) (by simp [Apart2])
    have h2 := packFrom_flat ([], [x]) xs
    rw [if_neg (by simp [pack]), pack]
    refine ⟨fun g hg => ?_, by simpa using h2, by simp⟩
    rcases List.mem_append.1 hg with hg | hg
    · exact h1.1 g hg
    · rw [List.mem_singleton.1 hg]; exact h1.2
theorem apart_mem {xs : List Int} (h : Apart2 xs) {a b : Int} (ha : a ∈ xs) (hb : b ∈ xs) : a = b ∨ a.natAbs + 2 ≤ b.natAbs ∨ b.natAbs + 2 ≤ a.natAbs := by
  induction xs with
  | nil => cases ha
  | cons x xs ih =>
    unfold Apart2 at h
    rw [List.pairwise_cons] at h
    rcases List.mem_cons.1 ha with ea | ha'
    · rcases List.mem_cons.1 hb with eb | hb'
      · exact .inl (ea.trans eb.symm)
      · rw [ea]; exact .inr (h.1 b hb')
    · rcases List.mem_cons.1 hb with eb | hb'
      · rw [eb]; exact .inr ((h.1 a ha').symm)
      · exact ih h.2 ha' hb'
/-- What a row of letters is, from a column on. -/
theorem rowL_cases {n c : Nat} {xs : List Int} (hL : Letters n xs) (h : c < n) : (∃ y, y ∈ xs ∧ y.natAbs = c + 1 ∧ rowL n xs c = y :: rowL n xs (c + 2) ∧ c + 2 ≤ n) ∨ ((∀ y ∈ xs, y.natAbs ≠ c + 1) ∧ rowL n xs c = rowL n xs (c + 1)) := by
  unfold rowL
  by_cases h1 : (c : Int) + 1 ∈ xs
  · refine .inl ⟨(c : Int) + 1, h1, by omega, ?_, by have := hL _ h1; omega⟩
    rw [rowFrom_8 h h1, lettersFrom]
    rfl
  · by_cases h2 : -(c : Int) - 1 ∈ xs
    · refine .inl ⟨-(c : Int) - 1, h2, by omega, ?_, by have := hL _ h2; omega⟩
      rw [rowFrom_9 h h1 h2, lettersFrom]
      rfl
    · refine .inr ⟨fun y hy e => ?_, ?_⟩
      · rcases (by omega : y = (c : Int) + 1 ∨ y = -(c : Int) - 1) with e | e
        · exact h1 (e ▸ hy)
        · exact h2 (e ▸ hy)
      · rw [rowFrom_1 h h1 h2, lettersFrom]
        rfl
theorem rowL_end {n c : Nat} (xs : List Int) (h : n ≤ c) : rowL n xs c = [] := by rw [rowL, rowFrom_end xs h]; rfl
theorem rowL_facts {n : Nat} {xs : List Int} (hL : Letters n xs) (hA : Apart2 xs) (m : Nat) : ∀ c, n - c ≤ m → (∀ y, y ∈ rowL n xs c ↔ y ∈ xs ∧ c + 1 ≤ y.natAbs) ∧ Apart2 (rowL n xs c) := by
  induction m with
  | zero =>
    intro c hc
    rw [rowL_end xs (by omega)]
    refine ⟨fun y => ⟨fun h => by simp at h, fun ⟨h1, h2⟩ => ?_⟩, by simp [Apart2]⟩
    have := hL y h1
    omega
  | succ m ih =>
    intro c hc
    by_cases hcn : c < n
    · rcases rowL_cases hL hcn with ⟨y, hy, hya, e, _⟩ | ⟨hno, e⟩
      · obtain ⟨i1, i2⟩ := ih (c + 2) (by omega)
        rw [e]
        refine ⟨fun z => ?_, ?_⟩
        · rw [List.mem_cons, i1]
          constructor
          · rintro (rfl | ⟨h1, h2⟩)
            · exact ⟨hy, by omega⟩
            · exact ⟨h1, by omega⟩
          · rintro ⟨h1, h2⟩
            rcases apart_mem hA h1 hy with h | h | h
            · exact .inl h
            · omega
            · exact .inr ⟨h1, by omega⟩
        · unfold Apart2
          rw [List.pairwise_cons]
          exact ⟨fun z hz => .inl (by have := ((i1 z).1 hz).2; omega), i2⟩
      · obtain ⟨i1, i2⟩ := ih (c + 1) (by omega)
        rw [e]
        refine ⟨fun z => ?_, i2⟩
        rw [i1]
        constructor
        · rintro ⟨h1, h2⟩
          exact ⟨h1, by omega⟩
        · rintro ⟨h1, h2⟩
          have := hno z h1
          exact ⟨h1, by omega⟩
    · rw [rowL_end xs (by omega)]
      refine ⟨fun y => ⟨fun h => by simp at h, fun ⟨h1, h2⟩ => ?_⟩, by simp [Apart2]⟩
      have := hL y h1
      omega
theorem cnt_step {xs : List Int} (hA : Apart2 xs) (c : Nat) : xs.countP (fun y => decide (c + 1 ≤ y.natAbs)) = (if ∃ y ∈ xs, y.natAbs = c + 1 then 1 else 0) + xs.countP (fun y => decide (c + 2 ≤ y.natAbs)) := by
  induction xs with
  | nil => simp
  | cons x xs ih =>
    unfold Apart2 at hA
    rw [List.pairwise_cons] at hA
    have i := ih hA.2
    rw [List.countP_cons, List.countP_cons, i]
    by_cases hx : x.natAbs = c + 1
    · have hno : ¬ ∃ y ∈ xs, y.natAbs = c + 1 := fun ⟨y, hy, e⟩ => by have := hA.1 y hy; omega
      rw [if_neg hno, if_pos (show decide (c + 1 ≤ x.natAbs) = true by simp; omega), if_neg (show ¬ decide (c + 2 ≤ x.natAbs) = true by simp; omega), if_pos ⟨x, by simp, hx⟩]
      clear i hno ih hA
      omega
    · have hiff : (∃ y ∈ x :: xs, y.natAbs = c + 1) ↔ ∃ y ∈ xs, y.natAbs = c + 1 :=
        ⟨fun ⟨y, hy, e⟩ => by
          rcases List.mem_cons.1 hy with rfl | hy
          · exact absurd e hx
          · exact ⟨y, hy, e⟩, fun ⟨y, hy, e⟩ => ⟨y, by simp [hy], e⟩⟩
      have hde : decide (c + 1 ≤ x.natAbs) = decide (c + 2 ≤ x.natAbs) := decide_eq_decide.2 (by clear i hiff ih hA; omega)
      rw [hde]
      by_cases he : ∃ y ∈ xs, y.natAbs = c + 1
      · rw [if_pos he, if_pos (hiff.2 he)]
        clear i he hiff ih hA
        omega
      · rw [if_neg he, if_neg (fun h => he (hiff.1 h))]
        clear i he hiff ih hA
        omega
theorem rowL_length {n : Nat} {xs : List Int} (hL : Letters n xs) (hA : Apart2 xs) (m : Nat) : ∀ c, n - c ≤ m → (rowL n xs c).length = xs.countP fun y => decide (c + 1 ≤ y.natAbs) := by
  have h0 : ∀ c, n ≤ c → xs.countP (fun y => decide (c + 1 ≤ y.natAbs)) = 0 := fun c hc => by
    rw [List.countP_eq_zero]
    intro y hy
    have := hL y hy
    simp
    omega
  induction m with
  | zero =>
    intro c hc
    rw [rowL_end xs (by omega), h0 c (by omega)]
    rfl
  | succ m ih =>
    intro c hc
    by_cases hcn : c < n
    · rw [cnt_step hA c]
      rcases rowL_cases hL hcn with ⟨y, hy, hya, e, _⟩ | ⟨hno, e⟩
      · rw [e, List.length_cons, ih (c + 2) (by omega), if_pos ⟨y, hy, hya⟩]
        have h2 := cnt_step hA (c + 1)
        rw [if_neg (fun ⟨z, hz, e⟩ => by have := apart_mem hA hz hy; rcases this with rfl | h | h <;> omega)] at h2
        have h3 : xs.countP (fun y => decide (c + 2 ≤ y.natAbs)) = 0 + xs.countP (fun y => decide (c + 2 + 1 ≤ y.natAbs)) := h2
        rw [h3, Nat.zero_add, Nat.add_comm]
      · rw [e, ih (c + 1) (by omega), if_neg (fun ⟨z, hz, e⟩ => hno z hz e), Nat.zero_add]
    · rw [rowL_end xs (by omega), h0 c (by omega)]
      rfl
theorem rowL_whole {n : Nat} {xs : List Int} (hL : Letters n xs) (hA : Apart2 xs) : (∀ y, y ∈ rowL n xs 0 ↔ y ∈ xs) ∧ Apart2 (rowL n xs 0) ∧ (rowL n xs 0).length = xs.length := by
  obtain ⟨h1, h2⟩ := rowL_facts hL hA n 0 (by omega)
  have h3 := rowL_length hL hA n 0 (by omega)
  refine ⟨fun y => ?_, h2, ?_⟩
  · rw [h1]
    exact ⟨fun h => h.1, fun h => ⟨h, by have := hL y h; omega⟩⟩
  · rw [h3, List.countP_eq_length]
    intro y hy
    have := hL y hy
    simp
    omega
/-- Such a row keeps all columns. -/
def OnlyPlain (ks : List Int) : Prop := ∀ k ∈ ks, k = 1 ∨ k = 8 ∨ k = 9
theorem rowFrom_plain {n : Nat} {xs : List Int} (hL : Letters n xs) (m : Nat) : ∀ c, n - c ≤ m → c ≤ n → OnlyPlain (rowFrom n xs c) ∧ takenS (rowFrom n xs c) = n - c := by
  induction m with
  | zero =>
    intro c hc hn
    rw [rowFrom_end xs (by omega)]
    exact ⟨fun k hk => by simp at hk, by simp [takenS]; omega⟩
  | succ m ih =>
    intro c hc hn
    by_cases hcn : c < n
    · by_cases h1 : (c : Int) + 1 ∈ xs
      · have h2 := hL _ h1
        obtain ⟨i1, i2⟩ := ih (c + 2) (by omega) (by omega)
        rw [rowFrom_8 hcn h1]
        refine ⟨fun k hk => ?_, ?_⟩
        · rcases List.mem_cons.1 hk with rfl | hk
          · simp
          · exact i1 k hk
        · rw [takenS, i2, show takenN 8 = 2 from rfl]; omega
      · by_cases h2 : -(c : Int) - 1 ∈ xs
        · have h3 := hL _ h2
          obtain ⟨i1, i2⟩ := ih (c + 2) (by omega) (by omega)
          rw [rowFrom_9 hcn h1 h2]
          refine ⟨fun k hk => ?_, ?_⟩
          · rcases List.mem_cons.1 hk with rfl | hk
            · simp
            · exact i1 k hk
          · rw [takenS, i2, show takenN 9 = 2 from rfl]; omega
        · obtain ⟨i1, i2⟩ := ih (c + 1) (by omega) (by omega)
          rw [rowFrom_1 hcn h1 h2]
          refine ⟨fun k hk => ?_, ?_⟩
          · rcases List.mem_cons.1 hk with rfl | hk
            · simp
            · exact i1 k hk
          · rw [takenS, i2, show takenN 1 = 1 from rfl]; omega
    · rw [rowFrom_end xs (by omega)]
      exact ⟨fun k hk => by simp at hk, by simp [takenS]; omega⟩
theorem plain_after {ks : List Int} (h : OnlyPlain ks) (m : Nat) (ht : takenS ks = m) : afterP ks (List.replicate m 1) = List.replicate m 1 ∧ okAfter ks (List.replicate m 1) = true ∧ changesP ks (List.replicate m 1) = List.replicate ks.length 0 := by
  induction ks generalizing m with
  | nil =>
    rw [takenS] at ht
    subst ht
    exact ⟨rfl, rfl, rfl⟩
  | cons k ks ih =>
    rw [takenS] at ht
    obtain ⟨q, hq⟩ : ∃ q, m = takenN k + q := ⟨m - takenN k, by omega⟩
    subst hq
    obtain ⟨i1, i2, i3⟩ := ih (fun x hx => h x (by simp [hx])) q (by omega)
    have hk : takenN k = madeN k ∧ stepMade k (List.replicate (takenN k + q) 1) = List.replicate (takenN k) 1 ∧ stepOk k (List.replicate (takenN k + q) 1) = true := by
      rcases h k (by simp) with rfl | rfl | rfl <;> exact ⟨rfl, rfl, rfl⟩
    have ed : (List.replicate (takenN k + q) (1 : Int)).drop (takenN k) = List.replicate q 1 := by rw [List.drop_replicate]; congr 1; omega
    have et : (List.replicate (takenN k + q) (1 : Int)).take (takenN k) = List.replicate (takenN k) 1 := by rw [List.take_replicate]; congr 1; omega
    refine ⟨?_, ?_, ?_⟩
    · rw [afterP, hk.2.1, ed, i1, List.replicate_append_replicate]
    · rw [okAfter, hk.2.2, ed, i2]; rfl
    · rw [changesP, changeI, hk.2.1, ed, et, i3, Int.sub_self]
      rfl
theorem limB_zeros {s : Int} (h : s ≤ 12) (m : Nat) : limB s (List.replicate m 0) = true := by
  induction m with
  | zero => rfl
  | succ m ih => rw [List.replicate_succ, limB, Int.add_zero, ih, decide_eq_true h]; rfl
theorem sumI_ones (m : Nat) : sumI (List.replicate m 1) = m := by
  induction m with
  | zero => rfl
  | succ m ih => rw [List.replicate_succ, sumI, ih]; omega
theorem plain_stitches {ks : List Int} (h : OnlyPlain ks) (hl : ks.length ≤ 16) : stitchesB ks = true := by
  unfold stitchesB
  rw [Bool.and_eq_true, List.all_eq_true, decide_eq_true_eq]
  refine ⟨fun k hk => ?_, hl⟩
  rcases h k hk with rfl | rfl | rfl <;> decide
theorem plain_row {ks : List Int} (h : OnlyPlain ks) {m : Nat} (ht : takenS ks = m) (hm : m ≤ 8) (hl : ks.length ≤ 16) {d car : Int} (hd : d = 1 ∨ d = -1) (hc : carrierB car = true) : rowOkB (List.replicate m 1) ⟨d, car, ks⟩ = true ∧ (stacksAfterP (List.replicate m 1) ks).1 = List.replicate m 1 := by
  have hs := plain_stitches h hl
  obtain ⟨a1, a2, a3⟩ := plain_after h m ht
  have hst : stacksB (List.replicate m 1) = true := by
    unfold stacksB
    rw [Bool.and_eq_true, List.all_eq_true, decide_eq_true_eq, List.length_replicate]
    refine ⟨fun x hx => ?_, hm⟩
    rw [(List.mem_replicate.1 hx).2]
    decide
  have hsa : stacksAfterP (List.replicate m 1) ks = (List.replicate m 1, 0) := by
    unfold stacksAfterP
    rw [hst, hs, if_pos (by rfl), if_pos (by rw [List.length_replicate]; exact ht), a1, a2, if_pos (by rw [List.length_replicate]; simpa using hm)]
  refine ⟨?_, by rw [hsa]⟩
  unfold rowOkB rowB dirB stepCode keepB
  rw [hsa, hc, a3, sumI_ones, ordL]
  simp only [Bool.and_eq_true, Bool.or_eq_true, beq_iff_eq, decide_eq_true_eq]
  refine ⟨⟨⟨⟨hd, trivial⟩, hs⟩, trivial⟩, ?_⟩
  split
  · rw [List.reverse_replicate]; exact limB_zeros (by omega) _
  · exact limB_zeros (by omega) _
theorem plain_rows {n : Nat} {gs : List (List Int)} (hg : ∀ g ∈ gs, Letters n g) (hn : n ≤ 8) {car : Int} (hc : carrierB car = true) (d : Int) (hd : d = 1 ∨ d = -1) : rowsOkB (List.replicate n 1) (rowsFrom n car gs d) = true := by
  induction gs generalizing d with
  | nil => rfl
  | cons g gs ih =>
    have hL := hg g (by simp)
    obtain ⟨p1, p2⟩ := rowFrom_plain hL n 0 (by omega) (by omega)
    have hl := rowFrom_length n g n 0 (by omega)
    obtain ⟨q1, q2⟩ := plain_row p1 (m := n) (by omega) hn (by omega) hd hc
    rw [rowsFrom, rowsOkB, q1, q2, ih (fun g' hg' => hg g' (by simp [hg'])) (-d) (by omega)]
    rfl
theorem plainB_rows {n : Nat} {gs : List (List Int)} (hg : ∀ g ∈ gs, Letters n g) (car d : Int) : plainB (rowsFrom n car gs d) = true := by
  induction gs generalizing d with
  | nil => rfl
  | cons g gs ih =>
    obtain ⟨p1, _⟩ := rowFrom_plain (hg g (by simp)) n 0 (by omega) (by omega)
    rw [rowsFrom, plainB, List.all_cons, ← plainB, ih (fun g' hg' => hg g' (by simp [hg'])) (-d), Bool.and_true]
    unfold plainRow
    rw [List.all_eq_true]
    intro k hk
    rcases p1 k hk with rfl | rfl | rfl <;> decide
theorem rowsWord_from (n : Nat) (car : Int) (gs : List (List Int)) (d : Int) : rowsWord (rowsFrom n car gs d) = gs.flatMap fun g => rowL n g 0 := by
  induction gs generalizing d with
  | nil => rfl
  | cons g gs ih =>
    have e := ih (-d)
    unfold rowsWord at e ⊢
    rw [rowsFrom, List.flatMap_cons, e, List.flatMap_cons]
    rfl
theorem flatRow_length {n : Nat} {gs : List (List Int)} (hg : ∀ g ∈ gs, Letters n g) (hA : ∀ g ∈ gs, Apart2 g) : (gs.flatMap fun g => rowL n g 0).length = gs.flatten.length := by
  induction gs with
  | nil => rfl
  | cons g gs ih =>
    rw [List.flatMap_cons, List.length_append, List.flatten_cons, List.length_append, ih (fun g' h => hg g' (by simp [h])) (fun g' h => hA g' (by simp [h])), (rowL_whole (hg g (by simp)) (hA g (by simp))).2.2]
theorem groups_letters {n : Nat} {xs : List Int} (h : Letters n xs) : ∀ g ∈ groupsOf xs, Letters n g := by
  have h2 := (groups_facts xs).2.1
  intro g hg x hx
  refine h x ?_
  rw [← h2]
  exact List.mem_flatten.2 ⟨g, hg, hx⟩
/-- The chart of a braid's letters is a valid cable, whose letters are the letters of the groups, from left to right. -/
theorem cable_of {n : Nat} {xs : List Int} {car : Int} (hL : Letters n xs) (hl : xs.length ≤ 40) (hp : (pack xs).length ≤ 8) (hn : 1 ≤ n ∧ n ≤ 8) (hc : carrierB car = true) :
    chartB n (rowsFrom n car (groupsOf xs) (-1)) = true ∧ plainB (rowsFrom n car (groupsOf xs) (-1)) = true ∧ cbCode n (rowsFrom n car (groupsOf xs) (-1)) = 0 ∧ cbX n (rowsFrom n car (groupsOf xs) (-1)) = ⟨n, (groupsOf xs).flatMap fun g => rowL n g 0⟩ ∧ ((groupsOf xs).flatMap fun g => rowL n g 0).length = xs.length := by
  obtain ⟨g1, g2, g3⟩ := groups_facts xs
  have hgl := groups_letters hL
  have hlen : (groupsOf xs).length ≤ 8 := by
    unfold groupsOf
    split
    · simp
    · exact hp
  have hc1 : chartB n (rowsFrom n car (groupsOf xs) (-1)) = true := by
    unfold chartB
    rw [rowsFrom_length, Int.toNat_natCast, plain_rows hgl hn.2 hc (-1) (.inr rfl)]
    simp only [Bool.and_true, Bool.and_eq_true]
    exact ⟨inR_iff.2 (by omega), inR_iff.2 (by omega)⟩
  have hc2 := plainB_rows hgl car (-1)
  have hw := rowsWord_from n car (groupsOf xs) (-1)
  have hwl := flatRow_length hgl g1
  rw [g2] at hwl
  have hc3 : cbCode n (rowsFrom n car (groupsOf xs) (-1)) = 0 := by
    unfold cbCode
    rw [if_pos hc1, if_pos hc2, hw, if_pos (by omega)]
  exact ⟨hc1, hc2, hc3, by rw [cbX, if_pos hc3, hw], hwl⟩

end Go.Proofs.Ytifjdiiafofnpaa

/- NeedOf: the plain functions. -/
namespace Go.Proofs.Ytifjdiiafofnpaa
open Go.RowKit

def sumP (cnt : Bool) : List PieceD → Int → Int
  | [], acc => acc
  | p :: r, acc =>
    if p.kind = 12 then sumP cnt (r.drop p.len.toNat) (wrap64 (acc + wrap64 (p.times * sumP cnt (r.take p.len.toNat) 0)))
    else sumP cnt r (wrap64 (acc + (if cnt then p.times else wrap64 (p.times * takenB p.kind))))
termination_by l => l.length
decreasing_by all_goals (simp; try omega)
def openP (cnt : Bool) : List PieceD → Int → Int
  | [], o => o
  | p :: r, o => if p.kind = 12 then openP cnt (r.drop p.len.toNat) (if p.times = 0 then sumP cnt (r.take p.len.toNat) 0 else o) else openP cnt r o
termination_by l => l.length
decreasing_by all_goals (simp; try omega)
def openPart : List PieceD → List PieceD
  | [] => []
  | p :: r => if p.kind = 12 ∧ p.times = 0 then r.take p.len.toNat else openPart r
abbrev Good (d : Nat) (l : List PieceD) : Prop := (rangeP d l).isSome = true
theorem sumP_nil (cnt : Bool) (acc : Int) : sumP cnt [] acc = acc := by rw [sumP]
theorem sumP_group {cnt : Bool} {p : PieceD} {r : List PieceD} (h : p.kind = 12) (acc : Int) : sumP cnt (p :: r) acc = sumP cnt (r.drop p.len.toNat) (wrap64 (acc + wrap64 (p.times * sumP cnt (r.take p.len.toNat) 0))) := by rw [sumP, if_pos h]
theorem sumP_plain {cnt : Bool} {p : PieceD} {r : List PieceD} (h : p.kind ≠ 12) (acc : Int) : sumP cnt (p :: r) acc = sumP cnt r (wrap64 (acc + (if cnt then p.times else wrap64 (p.times * takenB p.kind)))) := by rw [sumP, if_neg h]
theorem openP_nil (cnt : Bool) (o : Int) : openP cnt [] o = o := by rw [openP]
theorem openP_group {cnt : Bool} {p : PieceD} {r : List PieceD} (h : p.kind = 12) (o : Int) : openP cnt (p :: r) o = openP cnt (r.drop p.len.toNat) (if p.times = 0 then sumP cnt (r.take p.len.toNat) 0 else o) := by rw [openP, if_pos h]
theorem openP_plain {cnt : Bool} {p : PieceD} {r : List PieceD} (h : p.kind ≠ 12) (o : Int) : openP cnt (p :: r) o = openP cnt r o := by rw [openP, if_neg h]
theorem good_plain {d : Nat} {p : PieceD} {r : List PieceD} (h : Good d (p :: r)) (hk : p.kind ≠ 12) : plainP p = true ∧ Good d r := by
  unfold Good at h
  rw [rangeP, if_neg hk] at h
  split at h
  · exact ⟨by assumption, h⟩
  · cases h
theorem good_group {d : Nat} {p : PieceD} {r : List PieceD} (h : Good d (p :: r)) (hk : p.kind = 12) : d < 3 ∧ 1 ≤ p.len ∧ p.len ≤ r.length ∧ 0 ≤ p.times ∧ p.times ≤ 16 ∧ (0 < d → p.times ≠ 0) ∧ Good (d + 1) (r.take p.len.toNat) ∧ Good d (r.drop p.len.toNat) := by
  unfold Good at h ⊢
  rw [rangeP, if_pos hk] at h
  split at h
  · rename_i hg
    have h2 := hg.2
    unfold groupP at h2
    simp only [Bool.and_eq_true, Bool.not_eq_true', Bool.and_eq_false_iff, decide_eq_false_iff_not] at h2
    have h3 := inR_iff.1 h2.1.1
    have h4 := inR_iff.1 h2.2
    split at h
    · cases h
    · rename_i e
      rw [Option.isSome_map] at h
      exact ⟨hg.1, h4.1, h4.2, h3.1, h3.2, fun hd ht => by rcases h2.1.2 with h5 | h5 <;> omega, by rw [e]; rfl, h⟩
  · cases h
theorem good_deep (n d : Nat) (hd : 0 < d) : ∀ l : List PieceD, l.length ≤ n → Good d l → ∀ p ∈ l, ¬ (p.kind = 12 ∧ p.times = 0) := by
  induction n generalizing d with
  | zero => intro l hl _ p hp; have : l = [] := by cases l <;> simp_all
            subst this; simp at hp
  | succ n ih =>
    intro l hl h p hp
    cases l with
    | nil => simp at hp
    | cons q r =>
      simp only [List.length_cons] at hl
      by_cases hk : q.kind = 12
      · obtain ⟨_, h1, h2, _, _, h3, h4, h5⟩ := good_group h hk
        rcases List.mem_cons.1 hp with rfl | hp
        · exact fun e => h3 hd e.2
        · rw [← List.take_append_drop q.len.toNat r] at hp
          rcases List.mem_append.1 hp with hp | hp
          · exact ih (d + 1) (by omega) _ (by simp; omega) h4 p hp
          · exact ih d hd _ (by simp; omega) h5 p hp
      · rcases List.mem_cons.1 hp with rfl | hp
        · exact fun e => hk e.1
        · exact ih d hd _ (by omega) (good_plain h hk).2 p hp
theorem openPart_skip {a b : List PieceD} (h : ∀ p ∈ a, ¬ (p.kind = 12 ∧ p.times = 0)) : openPart (a ++ b) = openPart b := by
  induction a with
  | nil => rfl
  | cons p a ih =>
    rw [List.cons_append, openPart, if_neg (h p (by simp)), ih fun q hq => h q (by simp [hq])]
theorem openP_zero (cnt : Bool) (d n : Nat) : ∀ (l : List PieceD) (o : Int), l.length ≤ n → rangeP d l = some 0 → openP cnt l o = o := by
  induction n with
  | zero => intro l o hl _; have : l = [] := by cases l <;> simp_all
            subst this; exact openP_nil _ _
  | succ n ih =>
    intro l o hl h
    cases l with
    | nil => exact openP_nil _ _
    | cons p r =>
      simp only [List.length_cons] at hl
      by_cases hk : p.kind = 12
      · have hg : Good d (p :: r) := by unfold Good; rw [h]; rfl
        obtain ⟨h0, _, _, _, _, _, h4, h5⟩ := good_group hg hk
        have h6 := h
        rw [rangeP, if_pos hk] at h6
        split at h6
        · split at h6
          · cases h6
          · rw [Option.map_eq_some_iff] at h6
            obtain ⟨o', ho', e⟩ := h6
            have ht : p.times ≠ 0 := by intro ht; rw [if_pos ht] at e; omega
            rw [if_neg ht] at e
            rw [openP_group hk, if_neg ht]
            exact ih _ _ (by simp; omega) (by rw [ho']; congr 1; omega)
        · cases h6
      · rw [openP_plain hk]
        rw [rangeP, if_neg hk] at h
        split at h
        · exact ih _ _ (by omega) h
        · cases h
theorem openP_part (cnt : Bool) (n : Nat) : ∀ l : List PieceD, l.length ≤ n → okP (rangeP 0 l) = true → openP cnt l 0 = sumP cnt (openPart l) 0 := by
  induction n with
  | zero => intro l hl _; have : l = [] := by cases l <;> simp_all
            subst this; rw [openP_nil, openPart, sumP_nil]
  | succ n ih =>
    intro l hl h
    cases l with
    | nil => rw [openP_nil, openPart, sumP_nil]
    | cons p r =>
      simp only [List.length_cons] at hl
      have hg : Good 0 (p :: r) := by
        unfold Good
        cases e : rangeP 0 (p :: r) with
        | none => rw [e] at h; cases h
        | some o => rfl
      by_cases hk : p.kind = 12
      · obtain ⟨h0, _, _, _, _, _, h4, h5⟩ := good_group hg hk
        have h6 := h
        rw [rangeP, if_pos hk] at h6
        split at h6
        · split at h6
          · cases h6
          · cases ho : rangeP 0 (r.drop p.len.toNat) with
            | none => rw [ho] at h6; cases h6
            | some o =>
              rw [ho] at h6
              have h7 : (if p.times = 0 then 1 else 0) + o ≤ 1 := of_decide_eq_true h6
              rw [openP_group hk]
              by_cases ht : p.times = 0
              · rw [if_pos ht] at h7 ⊢
                rw [openP_zero cnt 0 n _ _ (by simp; omega) (by rw [ho]; congr 1; omega), openPart, if_pos ⟨hk, ht⟩]
              · rw [if_neg ht] at h7 ⊢
                rw [openPart, if_neg (fun e => ht e.2)]
                have e2 := openPart_skip (b := r.drop p.len.toNat) (good_deep r.length 1 (by omega) (r.take p.len.toNat) (by simp; omega) h4)
                rw [List.take_append_drop] at e2
                rw [e2]
                exact ih _ (by simp; omega) (by rw [ho]; exact decide_eq_true (by omega))
        · cases h6
      · rw [openP_plain hk, openPart, if_neg (fun e => hk e.1)]
        rw [rangeP, if_neg hk] at h
        split at h
        · exact ih _ (by omega) h
        · cases h
theorem openPart_good (n : Nat) : ∀ l : List PieceD, l.length ≤ n → Good 0 l → ∃ d, Good d (openPart l) := by
  induction n with
  | zero => intro l hl _; have : l = [] := by cases l <;> simp_all
            subst this; exact ⟨0, by rw [openPart]; unfold Good; rw [rangeP_nil]; rfl⟩
  | succ n ih =>
    intro l hl h
    cases l with
    | nil => exact ⟨0, by rw [openPart]; unfold Good; rw [rangeP_nil]; rfl⟩
    | cons p r =>
      simp only [List.length_cons] at hl
      by_cases hk : p.kind = 12
      · obtain ⟨h0, _, _, _, _, _, h4, h5⟩ := good_group h hk
        by_cases ht : p.times = 0
        · rw [openPart, if_pos ⟨hk, ht⟩]; exact ⟨1, h4⟩
        · rw [openPart, if_neg (fun e => ht e.2)]
          have e2 := openPart_skip (b := r.drop p.len.toNat) (good_deep r.length 1 (by omega) (r.take p.len.toNat) (by simp; omega) h4)
          rw [List.take_append_drop] at e2
          rw [e2]
          exact ih _ (by simp; omega) h5
      · rw [openPart, if_neg (fun e => hk e.1)]
        exact ih _ (by omega) (good_plain h hk).2
/-- From k on: the list is good at this depth. -/
theorem good_at_plain {d k : Nat} {ps : List PieceD} {p : PieceD} (h : Good d (ps.drop k)) (hp : ps[k]? = some p) (hk : p.kind ≠ 12) : plainP p = true ∧ Good d (ps.drop (k + 1)) := by
  rw [drop_cons hp] at h; exact good_plain h hk
theorem good_at_group {d k : Nat} {ps : List PieceD} {p : PieceD} (h : Good d (ps.drop k)) (hp : ps[k]? = some p) (hk : p.kind = 12) : ∃ n : Nat, p.len = (n : Int) ∧ 1 ≤ n ∧ k + 1 + n ≤ ps.length ∧ d < 3 ∧ (0 < d → p.times ≠ 0) ∧ 0 ≤ p.times ∧ p.times ≤ 16 ∧ Good (d + 1) (segP ps (k + 1) (k + 1 + n)) ∧ Good d (ps.drop (k + 1 + n)) ∧
    (∀ cnt acc, sumP cnt (ps.drop k) acc = sumP cnt (ps.drop (k + 1 + n)) (wrap64 (acc + wrap64 (p.times * sumP cnt (segP ps (k + 1) (k + 1 + n)) 0)))) ∧ (∀ cnt o, openP cnt (ps.drop k) o = openP cnt (ps.drop (k + 1 + n)) (if p.times = 0 then sumP cnt (segP ps (k + 1) (k + 1 + n)) 0 else o)) := by
  rw [drop_cons hp] at h
  have hkl := (List.getElem?_eq_some_iff.1 hp).1
  obtain ⟨h0, h1, h2, h3, h4, h5, h6, h7⟩ := good_group h hk
  rw [List.length_drop] at h2
  have e1 : (ps.drop (k + 1)).take p.len.toNat = segP ps (k + 1) (k + 1 + p.len.toNat) := by unfold segP; congr 1; omega
  have e2 : (ps.drop (k + 1)).drop p.len.toNat = ps.drop (k + 1 + p.len.toNat) := by rw [List.drop_drop]
  rw [e1] at h6
  rw [e2] at h7
  refine ⟨p.len.toNat, by omega, by omega, by omega, h0, h5, h3, h4, h6, h7, fun cnt acc => ?_, fun cnt o => ?_⟩
  · rw [drop_cons hp, sumP_group hk, e1, e2]
  · rw [drop_cons hp, openP_group hk, e1, e2]
theorem sum_at_plain {k : Nat} {ps : List PieceD} {p : PieceD} (hp : ps[k]? = some p) (hk : p.kind ≠ 12) (cnt : Bool) (acc : Int) : sumP cnt (ps.drop k) acc = sumP cnt (ps.drop (k + 1)) (wrap64 (acc + (if cnt then p.times else wrap64 (p.times * takenB p.kind)))) := by
  rw [drop_cons hp, sumP_plain hk]

end Go.Proofs.Ytifjdiiafofnpaa

/- NeedOf, the given side. -/
namespace Go.Proofs.Ytifjdiiafofnpaa
open Go.RowKit

theorem good_bound (n : Nat) : ∀ (d : Nat) (l : List PieceD), l.length ≤ n → Good d l → ∀ (k : Nat) (p : PieceD), l[k]? = some p → p.kind = 12 → 1 ≤ p.len ∧ (k : Int) + 1 + p.len ≤ l.length := by
  induction n with
  | zero => intro d l hl _ k p hp; have : l = [] := by cases l <;> simp_all
            subst this; simp at hp
  | succ n ih =>
    intro d l hl h k p hp hk
    cases l with
    | nil => simp at hp
    | cons q r =>
      simp only [List.length_cons] at hl ⊢
      by_cases hq : q.kind = 12
      · obtain ⟨_, h1, h2, _, _, h3, h4, h5⟩ := good_group h hq
        cases k with
        | zero => simp at hp; subst hp; omega
        | succ k =>
          simp only [List.getElem?_cons_succ] at hp
          by_cases hkn : k < q.len.toNat
          · have := ih (d + 1) (r.take q.len.toNat) (by simp; omega) h4 k p (by rw [List.getElem?_take_of_lt hkn]; exact hp) hk
            have hl2 : (r.take q.len.toNat).length ≤ r.length := by simp; omega
            omega
          · have := ih d (r.drop q.len.toNat) (by simp; omega) h5 (k - q.len.toNat) p (by rw [List.getElem?_drop, show q.len.toNat + (k - q.len.toNat) = k by omega]; exact hp) hk
            have hl2 : (r.drop q.len.toNat).length = r.length - q.len.toNat := by simp
            omega
      · cases k with
        | zero => simp at hp; subst hp; exact absurd hk hq
        | succ k =>
          have := ih d r (by omega) (good_plain h hq).2 k p (by simpa using hp) hk
          omega


end Go.Proofs.Ytifjdiiafofnpaa

/- measure, eachPiece and the closure between them. -/
namespace Go.Proofs.Ytifjdiiafofnpaa
open Go.RowKit

def needP (ps : List PieceD) : Int × Int × Bool := if piecesB ps then (sumP false ps 0, sumP false (openPart ps) 0, true) else (0, 0, false)
theorem piecesB_good {ps : List PieceD} (h : piecesB ps = true) : ps.length ≤ 24 ∧ okP (rangeP 0 ps) = true ∧ Good 0 ps := by
  unfold piecesB at h
  simp only [Bool.and_eq_true, decide_eq_true_eq] at h
  refine ⟨h.1, h.2, ?_⟩
  unfold Good
  cases e : rangeP 0 ps with
  | none => rw [e] at h; cases h.2
  | some o => rfl
theorem openPart_length (ps : List PieceD) : (openPart ps).length ≤ ps.length := by
  induction ps with
  | nil => simp [openPart]
  | cons p r ih =>
    rw [openPart]
    split
    · simp; omega
    · simp; omega


end Go.Proofs.Ytifjdiiafofnpaa

/- ExpandPieces: the plain functions. -/
namespace Go.Proofs.Ytifjdiiafofnpaa
open Go Go.RowKit

def rep (n : Int) (xs : List Int) : List Int := (List.replicate n.toNat xs).flatten
theorem rep_length (n : Int) (xs : List Int) : (rep n xs).length = n.toNat * xs.length := by
  unfold rep
  generalize n.toNat = k
  induction k with
  | zero => simp
  | succ k ih => rw [List.replicate_succ, List.flatten_cons, List.length_append, ih, Nat.succ_mul]; omega
theorem rep_zero {n : Int} (h : n ≤ 0) (xs : List Int) : rep n xs = [] := by
  have : n.toNat = 0 := by omega
  rw [rep, this]; rfl
theorem rep_snoc (k : Nat) (xs : List Int) : rep ((k : Int) + 1) xs = rep (k : Int) xs ++ xs := by
  have e1 : ((k : Int) + 1).toNat = k + 1 := by omega
  have e2 : (k : Int).toNat = k := by omega
  rw [rep, rep, e1, e2, List.replicate_succ', List.flatten_append]
  simp
def expP (o : Int) : List PieceD → List Int
  | [] => []
  | p :: r =>
    if p.kind = 12 then rep (if p.times = 0 then o else p.times) (expP o (r.take p.len.toNat)) ++ expP o (r.drop p.len.toNat)
    else rep p.times [p.kind] ++ expP o r
termination_by l => l.length
decreasing_by all_goals (simp; try omega)
theorem expP_nil (o : Int) : expP o [] = [] := by rw [expP]
theorem expP_group {o : Int} {p : PieceD} {r : List PieceD} (h : p.kind = 12) : expP o (p :: r) = rep (if p.times = 0 then o else p.times) (expP o (r.take p.len.toNat)) ++ expP o (r.drop p.len.toNat) := by rw [expP, if_pos h]
theorem expP_plain {o : Int} {p : PieceD} {r : List PieceD} (h : p.kind ≠ 12) : expP o (p :: r) = rep p.times [p.kind] ++ expP o r := by rw [expP, if_neg h]
theorem exp_at_plain {k : Nat} {ps : List PieceD} {p : PieceD} (hp : ps[k]? = some p) (hk : p.kind ≠ 12) (o : Int) : expP o (ps.drop k) = rep p.times [p.kind] ++ expP o (ps.drop (k + 1)) := by
  rw [drop_cons hp, expP_plain hk]
theorem exp_at_group {k n : Nat} {ps : List PieceD} {p : PieceD} (hp : ps[k]? = some p) (hk : p.kind = 12) (hn : p.len = (n : Int)) (o : Int) : expP o (ps.drop k) = rep (if p.times = 0 then o else p.times) (expP o (segP ps (k + 1) (k + 1 + n))) ++ expP o (ps.drop (k + 1 + n)) := by
  rw [drop_cons hp, expP_group hk, hn, Int.toNat_natCast, List.drop_drop]
  have e : segP ps (k + 1) (k + 1 + n) = (ps.drop (k + 1)).take n := by rw [segP, Nat.add_sub_cancel_left]
  rw [e]
theorem expP_deep (n d : Nat) (hd : 0 < d) (o : Int) : ∀ l : List PieceD, l.length ≤ n → Good d l → expP o l = expP 0 l := by
  induction n generalizing d with
  | zero => intro l hl _; have : l = [] := by cases l <;> simp_all
            subst this; rw [expP_nil, expP_nil]
  | succ n ih =>
    intro l hl h
    cases l with
    | nil => rw [expP_nil, expP_nil]
    | cons p r =>
      simp only [List.length_cons] at hl
      by_cases hk : p.kind = 12
      · obtain ⟨_, h1, h2, _, _, h3, h4, h5⟩ := good_group h hk
        rw [expP_group hk, expP_group hk, if_neg (h3 hd), if_neg (h3 hd), ih (d + 1) (by omega) _ (by simp; omega) h4, ih d hd _ (by simp; omega) h5]
      · rw [expP_plain hk, expP_plain hk, ih d hd _ (by omega) (good_plain h hk).2]
def roomOf : Nat → Nat
  | 0 => 262144
  | 1 => 16384
  | 2 => 1024
  | _ => 64
theorem roomOf_step {d : Nat} (h : d < 3) : roomOf d = 16 * roomOf (d + 1) := by
  rcases (by omega : d = 0 ∨ d = 1 ∨ d = 2) with e | e | e <;> subst e <;> rfl
theorem roomOf_ge (d : Nat) : 64 ≤ roomOf d := by unfold roomOf; split <;> omega
theorem roomOf_le (d : Nat) : roomOf d ≤ 262144 := by unfold roomOf; split <;> omega
theorem times_of {p : PieceD} (h : plainP p = true) : 1 ≤ p.times ∧ p.times ≤ 16 ∧ p.len = 0 ∧ isStitchB p.kind = true := by
  unfold plainP at h
  simp only [Bool.and_eq_true, decide_eq_true_eq] at h
  obtain ⟨⟨h1, h2⟩, h3⟩ := h
  have := inR_iff.1 h2
  exact ⟨this.1, this.2, h3, h1⟩
theorem expP_small (n : Nat) (o : Int) (ho : o ≤ 16) : ∀ (d : Nat) (l : List PieceD), l.length ≤ n → Good d l → (expP o l).length ≤ l.length * roomOf d := by
  induction n with
  | zero => intro d l hl _; have : l = [] := by cases l <;> simp_all
            subst this; rw [expP_nil]; simp
  | succ n ih =>
    intro d l hl h
    cases l with
    | nil => rw [expP_nil]; simp
    | cons p r =>
      simp only [List.length_cons] at hl
      by_cases hk : p.kind = 12
      · obtain ⟨h0, h1, h2, h8, h9, h3, h4, h5⟩ := good_group h hk
        have i1 := ih (d + 1) (r.take p.len.toNat) (by simp; omega) h4
        have i2 := ih d (r.drop p.len.toNat) (by simp; omega) h5
        have l1 : (r.take p.len.toNat).length + (r.drop p.len.toNat).length = r.length := by rw [← List.length_append, List.take_append_drop]
        rw [expP_group hk, List.length_append, rep_length, List.length_cons, roomOf_step h0] at *
        have l2 : (if p.times = 0 then o else p.times).toNat ≤ 16 := by split <;> omega
        have l3 := Nat.mul_le_mul l2 i1
        have l4 : r.length * (16 * roomOf (d + 1)) = (r.take p.len.toNat).length * (16 * roomOf (d + 1)) + (r.drop p.len.toNat).length * (16 * roomOf (d + 1)) := by rw [← Nat.add_mul, l1]
        have l5 : 16 * ((r.take p.len.toNat).length * roomOf (d + 1)) = (r.take p.len.toNat).length * (16 * roomOf (d + 1)) := by rw [Nat.mul_left_comm]
        have l6 : (r.length + 1) * (16 * roomOf (d + 1)) = r.length * (16 * roomOf (d + 1)) + 16 * roomOf (d + 1) := by rw [Nat.add_mul, Nat.one_mul]
        omega
      · obtain ⟨hp, hg⟩ := good_plain h hk
        obtain ⟨t1, t2, _⟩ := times_of hp
        have i1 := ih d r (by omega) hg
        have hr := roomOf_ge d
        rw [expP_plain hk, List.length_append, rep_length]
        simp only [List.length_cons, List.length_nil]
        rw [Nat.add_mul, Nat.one_mul]
        omega
theorem takenB_le (k : Int) (h : isStitchB k = true) : 0 ≤ takenB k ∧ takenB k ≤ 4 := by
  have h1 := inR_iff.1 h
  rcases (by omega : k = 1 ∨ k = 2 ∨ k = 3 ∨ k = 4 ∨ k = 5 ∨ k = 6 ∨ k = 7 ∨ k = 8 ∨ k = 9 ∨ k = 10 ∨ k = 11) with e | e | e | e | e | e | e | e | e | e | e <;> subst e <;> decide
theorem sumP_small (cnt : Bool) (n : Nat) : ∀ (d : Nat) (l : List PieceD) (acc : Int), l.length ≤ n → n ≤ 100 → Good d l → 0 ≤ acc → acc + ((l.length * roomOf d : Nat) : Int) ≤ 1000000000000000 → acc ≤ sumP cnt l acc ∧ sumP cnt l acc ≤ acc + ((l.length * roomOf d : Nat) : Int) := by
  induction n with
  | zero => intro d l acc hl _ _ h0 _; have : l = [] := by cases l <;> simp_all
            subst this; rw [sumP_nil]; simp
  | succ n ih =>
    intro d l acc hl h100 h h0 h1
    cases l with
    | nil => rw [sumP_nil]; simp
    | cons p r =>
      simp only [List.length_cons] at hl h1 ⊢
      rw [Nat.add_mul, Nat.one_mul] at h1 ⊢
      have hr := roomOf_ge d
      by_cases hk : p.kind = 12
      · obtain ⟨hd, k1, k2, k8, k9, _, h4, h5⟩ := good_group h hk
        have l1 : (r.take p.len.toNat).length + (r.drop p.len.toNat).length = r.length := by rw [← List.length_append, List.take_append_drop]
        have m1 := Nat.mul_le_mul (show (r.take p.len.toNat).length ≤ 100 by simp; omega) (roomOf_le (d + 1))
        obtain ⟨s0, s1⟩ := ih (d + 1) (r.take p.len.toNat) 0 (by simp; omega) (by omega) h4 (by omega) (by omega)
        have l4 : r.length * roomOf d = (r.take p.len.toNat).length * roomOf d + (r.drop p.len.toNat).length * roomOf d := by rw [← Nat.add_mul, l1]
        have l5 : (r.take p.len.toNat).length * roomOf d = 16 * ((r.take p.len.toNat).length * roomOf (d + 1)) := by rw [roomOf_step hd, Nat.mul_left_comm]
        rw [sumP_group hk]
        have hi := fun a x y => ih d (r.drop p.len.toNat) a (by simp; omega) (by omega) h5 x y
        generalize sumP cnt (r.take p.len.toNat) 0 = S at s0 s1 ⊢
        generalize (r.take p.len.toNat).length * roomOf (d + 1) = X at *
        have t1 := Int.mul_le_mul_of_nonneg_right k9 s0
        have t0 := Int.mul_nonneg k8 s0
        generalize p.times * S = Z at t0 t1 ⊢
        have w1 : wrap64 Z = Z := IntWalk.wrap64_in _ ⟨by omega, by omega⟩
        have w2 : wrap64 (acc + Z) = acc + Z := IntWalk.wrap64_in _ ⟨by omega, by omega⟩
        rw [w1, w2]
        have := hi (acc + Z) (by omega) (by omega)
        omega
      · obtain ⟨hp, hg⟩ := good_plain h hk
        obtain ⟨t1, t2, _, t4⟩ := times_of hp
        obtain ⟨k1, k2⟩ := takenB_le _ t4
        rw [sumP_plain hk]
        have hi := fun a x y => ih d r a (by omega) (by omega) hg x y
        have hv : 0 ≤ (if cnt then p.times else wrap64 (p.times * takenB p.kind)) ∧ (if cnt then p.times else wrap64 (p.times * takenB p.kind)) ≤ 64 := by
          split
          · omega
          · have z1 := Int.mul_le_mul t2 k2 k1 (by omega)
            have z0 := Int.mul_nonneg (show 0 ≤ p.times by omega) k1
            generalize p.times * takenB p.kind = Z at z0 z1 ⊢
            rw [show wrap64 Z = Z from IntWalk.wrap64_in _ ⟨by omega, by omega⟩]
            omega
        generalize (if cnt then p.times else wrap64 (p.times * takenB p.kind)) = v at hv ⊢
        rw [show wrap64 (acc + v) = acc + v from IntWalk.wrap64_in _ ⟨by omega, by omega⟩]
        have := hi (acc + v) (by omega) (by omega)
        omega
/-- How often the open group is made. -/
def expT (need cols each : Int) : Int := if need < cols ∧ 0 < each then (cols - need).tdiv each else 0
theorem expT_range {need cols each : Int} (h0 : 0 ≤ need) (h8 : cols ≤ 8) : 0 ≤ expT need cols each ∧ expT need cols each ≤ 8 := by
  unfold expT
  split
  · rename_i h
    rw [Int.tdiv_eq_ediv_of_nonneg (by omega)]
    have h1 := Int.ediv_nonneg (show 0 ≤ cols - need by omega) (show 0 ≤ each by omega)
    have h2 := Int.ediv_le_self each (show 0 ≤ cols - need by omega)
    omega
  · omega
def needOf (ps : List PieceD) : Int := sumP false ps 0
def eachOf (ps : List PieceD) : Int := sumP false (openPart ps) 0
def timesOf (ps : List PieceD) (cols : Int) : Int := expT (needOf ps) cols (eachOf ps)
def exCode (ps : List PieceD) (cols : Int) : Int :=
  if piecesB ps then
    if inR cols 1 8 then
      if needOf ps + timesOf ps cols * eachOf ps = cols then
        if sumP true ps 0 + timesOf ps cols * sumP true (openPart ps) 0 ≤ 16 then 0 else 5
      else 10
    else 2
  else 1
def exRes (ps : List PieceD) (cols : Int) : List Int := if exCode ps cols = 0 then expP (timesOf ps cols) ps else []
theorem ex_err {ps : List PieceD} {cols k : Int} (e : exCode ps cols = k) (hk : k ≠ 0) : exRes ps cols = [] ∧ exCode ps cols = k := ⟨by rw [exRes, if_neg (by rw [e]; exact hk)], e⟩
theorem ex_ok {ps : List PieceD} {cols : Int} (e : exCode ps cols = 0) : exRes ps cols = expP (timesOf ps cols) ps ∧ exCode ps cols = 0 := ⟨by rw [exRes, if_pos e], e⟩
theorem sums_small {ps : List PieceD} (h : piecesB ps = true) (cnt : Bool) : (0 ≤ sumP cnt ps 0 ∧ sumP cnt ps 0 ≤ 30000000) ∧ (0 ≤ sumP cnt (openPart ps) 0 ∧ sumP cnt (openPart ps) 0 ≤ 30000000) := by
  obtain ⟨h24, _, hg⟩ := piecesB_good h
  obtain ⟨d, hd⟩ := openPart_good ps.length ps (Nat.le_refl _) hg
  have hpl := openPart_length ps
  have m1 := Nat.mul_le_mul h24 (roomOf_le 0)
  have m2 := Nat.mul_le_mul (show (openPart ps).length ≤ 24 by omega) (roomOf_le d)
  have s1 := sumP_small cnt ps.length 0 ps 0 (Nat.le_refl _) (by omega) hg (by omega) (by omega)
  have s2 := sumP_small cnt ps.length d (openPart ps) 0 hpl (by omega) hd (by omega) (by omega)
  omega
theorem exRes_length (ps : List PieceD) (cols : Int) : (exRes ps cols).length ≤ 7000000 := by
  unfold exRes
  split
  · rename_i h
    have hv : piecesB ps = true := by
      cases hv : piecesB ps
      · rw [exCode, hv] at h; simp at h
      · rfl
    have hc : inR cols 1 8 = true := by
      cases hc : inR cols 1 8
      · rw [exCode, hv, hc] at h; simp at h
      · rfl
    obtain ⟨h24, _, hg⟩ := piecesB_good hv
    have ht := expT_range (each := eachOf ps) (sums_small hv false).1.1 (inR_iff.1 hc).2
    have := expP_small ps.length (timesOf ps cols) (by unfold timesOf needOf; omega) 0 ps (Nat.le_refl _) hg
    have m1 := Nat.mul_le_mul h24 (roomOf_le 0)
    omega
  · simp

end Go.Proofs.Ytifjdiiafofnpaa

/- ExpandPieces: the stitches of pieces, the given side. -/
namespace Go.Proofs.Ytifjdiiafofnpaa
open Go Go.RowKit

theorem wpList_appendC_at {P : Program} (w : World) {ops : Array Oper} {rest : List Oper} {o : Oper} {a : Act} {Q : Exit → Act → World → Prop} (hgd : o.guard = none) (s x : Operand) (t : TypeId)
    (hop : o.op = .call { callee := .builtin .append, args := #[s, x], argTypes := #[t, t] })
    (e : TypeId) (i : TypeInfo) (z : Value) (size bytes : Nat) (ht : P.underlying t = some (.slice e)) (hi : P.info? e = some i) (hz : i.zero = some z)
    (hsize : i.size = size) (hby : i.bytes = bytes) (hzs : z.cells.size = size) (hsz : 0 < size)
    {lo hi' n c : Nat} {A : Option Addr} {cs : List Value} (hs : a.eval s = .slice A n c) (hown : OwnC w lo hi' e size A n c cs) (hlo : lo ≤ w.heap.size)
    (A2 : Option Addr) (m c2 : Nat) (news : List Value) (hx : a.eval x = .slice A2 m c2) (hl : news.length = m * size)
    (hnews : ∀ j u, news[j]? = some u → ∃ b off, A2 = some ⟨b, off, none⟩ ∧ w.cell? ⟨b, off + j, none⟩ = some u) (h1 : ∀ u ∈ news, u.oneCell' = true)
    (h63 : n + m ≤ maxLen) (hbytes : (n + m) * bytes ≤ 140737488355328)
    (h : ∀ A' c' w', OwnC w' lo w'.heap.size e size A' (n + m) c' (cs ++ news) → w.grownBy w' (Value.slice A n c).ownBlock → Below lo w w' → ((Value.slice A' (n + m) c').ownBlock = (Value.slice A n c).ownBlock ∨ (Value.slice A' (n + m) c').ownBlock = some w.heap.size) → wpList P ops Q rest (a.put o.dst (.slice A' (n + m) c')) w') : wpList P ops Q (o :: rest) a w :=
  wpList_plain hgd fun _ hK => wp_appendC_at w s x t hop e i z size bytes ht hi hz hsize hby hzs hsz hs hown hlo A2 m c2 news hx hl hnews h1 h63 hbytes fun A' c' w' h2 h3 h4 h5 => hK _ _ (h A' c' w' h2 h3 h4 h5)
/-- The two slices do not lie in one block. -/
def Apart (A B : Option Addr) : Prop := ∀ a b, A = some a → B = some b → a.block ≠ b.block
theorem Apart.of {w : World} {lo hi lo' hi' : Nat} {A B : Option Addr} {n c m d : Nat} {xs ys : List Value} (h : OwnC w lo hi 2 1 A n c xs) (h' : OwnC w lo' hi' 2 1 B m d ys) (hh : hi ≤ lo') : Apart A B := by
  intro a b ha hb e
  have h1 := h.lt a ha
  rcases h'.form with ⟨hB, _⟩ | ⟨q, _, hB, h2, _⟩
  · rw [hB] at hb; cases hb
  · rw [hB] at hb
    injection hb with hb
    subst hb
    have : lo' ≤ q := h2
    have e' : a.block = q := e
    omega
theorem Apart.kept {w w' : World} {lo hi : Nat} {A B : Option Addr} {n c m d : Nat} {ys : List Value} (ha : Apart A B) (h : OwnC w lo hi 2 1 B m d ys) (hhi : hi ≤ w.heap.size) (hg : w.grownBy w' (Value.slice A n c).ownBlock) : OwnC w' lo hi 2 1 B m d ys := by
  refine h.keep1 fun q hq => hg.block q ?_ ?_
  · have := h.lt _ hq; exact Nat.lt_of_lt_of_le this hhi
  · intro e
    cases A with
    | none => cases e
    | some a =>
      injection e with e
      exact ha a ⟨q, 0, none⟩ rfl hq e.symm
theorem Apart.next {w : World} {lo hi : Nat} {A A' B : Option Addr} {n c n' c' m d : Nat} {ys : List Value} (ha : Apart A B) (h : OwnC w lo hi 2 1 B m d ys) (hhi : hi ≤ w.heap.size) (hat : (Value.slice A' n' c').ownBlock = (Value.slice A n c).ownBlock ∨ (Value.slice A' n' c').ownBlock = some w.heap.size) : Apart A' B := by
  intro a b hA hB e
  subst hA
  have hb := h.lt b hB
  rcases hat with hat | hat
  · cases A with
    | none => cases hat
    | some a0 =>
      injection hat with hat
      exact ha a0 b rfl hB (by rw [← hat]; exact e)
  · injection hat with hat
    omega

end Go.Proofs.Ytifjdiiafofnpaa
