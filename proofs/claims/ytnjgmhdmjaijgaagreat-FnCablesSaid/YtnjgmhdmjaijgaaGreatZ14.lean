/- Steps of the proof, joined from several texts: BB BC. -/
import Derived.Test.YtnjgmhdmjaijgaaGreatZ13

/- Permutations and positive braids, plain: every permutation has a word, any two of its reduced words are the same braid, all of them divide the half twist. -/
namespace Go.Proofs.YtnjgmhdmjaijgaaGreat.Br

section sw
variable {α β : Type}
/-- Two neighbours change places. -/
def sw : Nat → List α → List α
  | 0, x :: y :: r => y :: x :: r
  | 0, l => l
  | j + 1, x :: r => x :: sw j r
  | _ + 1, [] => []
theorem sw_at (x y : α) (b : List α) : ∀ a : List α, sw a.length (a ++ x :: y :: b) = a ++ y :: x :: b
  | [] => rfl
  | z :: a => by
    show z :: sw a.length (a ++ x :: y :: b) = z :: (a ++ y :: x :: b)
    rw [sw_at x y b a]
theorem sw_at' {a : List α} {j : Nat} (h : a.length = j) (x y : α) (b : List α) : sw j (a ++ x :: y :: b) = a ++ y :: x :: b := h ▸ sw_at x y b a
theorem sw_at1 {a : List α} {j : Nat} (h : a.length = j) (x y z : α) (b : List α) : sw (j + 1) (a ++ x :: y :: z :: b) = a ++ x :: z :: y :: b := by
  have := sw_at' (a := a ++ [x]) (j := j + 1) (by simp [h]) y z b
  simpa using this
theorem sw_perm : ∀ (j : Nat) (l : List α), List.Perm (sw j l) l
  | 0, [] => .refl _
  | 0, [_] => .refl _
  | 0, x :: y :: r => List.Perm.swap x y r
  | j + 1, x :: r => (sw_perm j r).cons x
  | _ + 1, [] => .refl _
theorem sw_length (j : Nat) (l : List α) : (sw j l).length = l.length := (sw_perm j l).length_eq
theorem sw_map (f : α → β) : ∀ (j : Nat) (l : List α), sw j (l.map f) = (sw j l).map f
  | 0, [] => rfl
  | 0, [_] => rfl
  | 0, _ :: _ :: _ => rfl
  | j + 1, x :: r => by
    show f x :: sw j (r.map f) = f x :: (sw j r).map f
    rw [sw_map f j r]
  | _ + 1, [] => rfl
theorem sw_sw : ∀ (j : Nat) (l : List α), sw j (sw j l) = l
  | 0, [] => rfl
  | 0, [_] => rfl
  | 0, _ :: _ :: _ => rfl
  | j + 1, x :: r => by
    show x :: sw j (sw j r) = x :: r
    rw [sw_sw j r]
  | _ + 1, [] => rfl
theorem bi {j : Nat} {l : List α} (h : j + 1 < l.length) : ∃ a x y b, l = a ++ x :: y :: b ∧ a.length = j := by
  refine ⟨l.take j, l[j], l[j + 1], l.drop (j + 2), ?_, by simp; omega⟩
  rw [← List.drop_eq_getElem_cons (show j + 1 < l.length by omega), ← List.drop_eq_getElem_cons (show j < l.length by omega), List.take_append_drop]
theorem tri {j : Nat} {l : List α} (h : j + 2 < l.length) : ∃ a x y z b, l = a ++ x :: y :: z :: b ∧ a.length = j := by
  refine ⟨l.take j, l[j], l[j + 1], l[j + 2], l.drop (j + 3), ?_, by simp; omega⟩
  rw [← List.drop_eq_getElem_cons (show j + 2 < l.length by omega), ← List.drop_eq_getElem_cons (show j + 1 < l.length by omega), ← List.drop_eq_getElem_cons (show j < l.length by omega), List.take_append_drop]
theorem sw_far : ∀ (j k : Nat) (l : List α), j + 2 ≤ k → sw j (sw k l) = sw k (sw j l)
  | _, 0, _, h => by omega
  | j, k + 1, [], h => by cases j <;> rfl
  | 0, k + 1, [x], h => by
    obtain ⟨k, rfl⟩ : ∃ m, k = m + 1 := ⟨k - 1, by omega⟩
    rfl
  | 0, k + 1, x :: y :: r, h => by
    obtain ⟨k, rfl⟩ : ∃ m, k = m + 1 := ⟨k - 1, by omega⟩
    rfl
  | j + 1, k + 1, x :: r, h => by
    show x :: sw j (sw k r) = x :: sw k (sw j r)
    rw [sw_far j k r (by omega)]
def run (w : List Nat) (l : List α) : List α := w.foldl (fun l j => sw j l) l
theorem run_nil (l : List α) : run [] l = l := rfl
theorem run_cons (j : Nat) (w : List Nat) (l : List α) : run (j :: w) l = run w (sw j l) := rfl
theorem run_app (u v : List Nat) (l : List α) : run (u ++ v) l = run v (run u l) := by rw [run, List.foldl_append]; rfl
theorem run_map (f : α → β) (w : List Nat) : ∀ l : List α, run w (l.map f) = (run w l).map f := by
  induction w with
  | nil => intro l; rfl
  | cons j w ih => intro l; rw [run_cons, run_cons, sw_map, ih]
theorem run_perm (w : List Nat) : ∀ l : List α, List.Perm (run w l) l := by
  induction w with
  | nil => intro l; exact .refl _
  | cons j w ih => intro l; exact (ih _).trans (sw_perm j l)
theorem run_length (w : List Nat) (l : List α) : (run w l).length = l.length := (run_perm w l).length_eq
theorem run_inj {w : List Nat} : ∀ {l m : List α}, run w l = run w m → l = m := by
  induction w with
  | nil => intro l m h; exact h
  | cons j w ih =>
    intro l m h
    have h1 := ih (l := sw j l) (m := sw j m) h
    rw [← sw_sw j l, h1, sw_sw]
end sw

/-- A descent. -/
def dB : Nat → List Int → Bool
  | 0, x :: y :: _ => decide (y < x)
  | 0, _ => false
  | j + 1, _ :: r => dB j r
  | _ + 1, [] => false
theorem dB_at (x y : Int) (b : List Int) : ∀ a : List Int, dB a.length (a ++ x :: y :: b) = decide (y < x)
  | [] => rfl
  | z :: a => by
    show dB a.length (a ++ x :: y :: b) = _
    rw [dB_at x y b a]
theorem dB_at' {a : List Int} {j : Nat} (h : a.length = j) (x y : Int) (b : List Int) : dB j (a ++ x :: y :: b) = decide (y < x) := h ▸ dB_at x y b a
theorem dB_at1 {a : List Int} {j : Nat} (h : a.length = j) (x y z : Int) (b : List Int) : dB (j + 1) (a ++ x :: y :: z :: b) = decide (z < y) := by
  have := dB_at' (a := a ++ [x]) (j := j + 1) (by simp [h]) y z b
  simpa using this
theorem dB_lt : ∀ {j : Nat} {l : List Int}, dB j l = true → j + 1 < l.length
  | 0, [], h => by cases h
  | 0, [_], h => by cases h
  | 0, _ :: _ :: _, _ => by simp
  | j + 1, _ :: r, h => by have := dB_lt (j := j) (l := r) h; simpa using this
  | _ + 1, [], h => by cases h
theorem dB_far : ∀ (j k : Nat) (l : List Int), j + 2 ≤ k → dB j (sw k l) = dB j l ∧ dB k (sw j l) = dB k l
  | _, 0, _, h => by omega
  | j, k + 1, [], h => by cases j <;> exact ⟨rfl, rfl⟩
  | 0, k + 1, [x], h => by
    obtain ⟨k, rfl⟩ : ∃ m, k = m + 1 := ⟨k - 1, by omega⟩
    exact ⟨rfl, rfl⟩
  | 0, k + 1, x :: y :: r, h => by
    obtain ⟨k, rfl⟩ : ∃ m, k = m + 1 := ⟨k - 1, by omega⟩
    exact ⟨rfl, rfl⟩
  | j + 1, k + 1, x :: r, h => dB_far j k r (by omega)
theorem dB_apart {j k : Nat} (h : apart j k) (l : List Int) : dB j (sw k l) = dB j l := by
  rcases h with h | h
  · exact (dB_far j k l h).1
  · exact (dB_far k j l h).2
theorem sw_apart {α : Type} {j k : Nat} (h : apart j k) (l : List α) : sw j (sw k l) = sw k (sw j l) := by
  rcases h with h | h
  · exact sw_far j k l h
  · exact (sw_far k j l h).symm
/-- Each letter of a word takes a descent away. -/
def redB : List Nat → List Int → Bool
  | [], _ => true
  | j :: w, l => dB j l && redB w (sw j l)
theorem redB_cons {j : Nat} {w : List Nat} {l : List Int} : redB (j :: w) l = (dB j l && redB w (sw j l)) := rfl
theorem redB_app (v : List Nat) : ∀ (u : List Nat) (l : List Int), redB (u ++ v) l = (redB u l && redB v (run u l))
  | [], l => by simp [redB, run]
  | j :: u, l => by rw [List.cons_append, redB_cons, redB_cons, redB_app v u, run_cons, Bool.and_assoc]
theorem near_red (j : Nat) (w : List Nat) (l : List Int) : redB (j :: (j + 1) :: j :: w) l = redB ((j + 1) :: j :: (j + 1) :: w) l ∧ (redB (j :: (j + 1) :: j :: w) l = true → run (j :: (j + 1) :: j :: w) l = run ((j + 1) :: j :: (j + 1) :: w) l) := by
  by_cases h : j + 2 < l.length
  · obtain ⟨a, x, y, z, b, rfl, ha⟩ := tri h
    simp only [redB_cons, run_cons, sw_at' ha, sw_at1 ha, dB_at' ha, dB_at1 ha]
    refine ⟨?_, fun _ => trivial⟩
    cases decide (y < x) <;> cases decide (z < x) <;> cases decide (z < y) <;> rfl
  · have h1 : ∀ m : List Int, m.length = l.length → dB (j + 1) m = false := fun m hm => by
      cases hd : dB (j + 1) m
      · rfl
      · have := dB_lt hd; omega
    have e1 : redB (j :: (j + 1) :: j :: w) l = false := by rw [redB_cons, redB_cons, h1 _ (sw_length j l), Bool.false_and, Bool.and_false]
    have e2 : redB ((j + 1) :: j :: (j + 1) :: w) l = false := by rw [redB_cons, h1 _ rfl, Bool.false_and]
    exact ⟨by rw [e1, e2], fun h => by rw [e1] at h; cases h⟩
theorem far_red {j k : Nat} (h : apart j k) (w : List Nat) (l : List Int) : redB (j :: k :: w) l = redB (k :: j :: w) l ∧ run (j :: k :: w) l = run (k :: j :: w) l := by
  simp only [redB_cons, run_cons, dB_apart h, dB_apart h.symm, sw_apart h]
  refine ⟨?_, trivial⟩
  cases dB j l <;> cases dB k l <;> rfl
theorem St.red {a b : List Nat} (h : St a b) {l : List Int} (ha : redB a l = true) : redB b l = true ∧ run b l = run a l := by
  cases h with
  | @far u v j k h =>
    rw [redB_app, Bool.and_eq_true] at ha
    obtain ⟨h1, h2⟩ := far_red (j := j) (k := k) h v (run u l)
    rw [redB_app, run_app, run_app, ← h1, ← h2, Bool.and_eq_true]
    exact ⟨ha, rfl⟩
  | @near u v j k h =>
    rw [redB_app, Bool.and_eq_true] at ha
    rcases h with rfl | rfl
    · obtain ⟨h1, h2⟩ := near_red j v (run u l)
      rw [redB_app, run_app, run_app, ← h1, ← h2 ha.2, Bool.and_eq_true]
      exact ⟨ha, rfl⟩
    · obtain ⟨h1, h2⟩ := near_red k v (run u l)
      have h3 := h1.trans ha.2
      rw [redB_app, run_app, run_app, h1, h2 h3, Bool.and_eq_true]
      exact ⟨ha, rfl⟩
theorem Eqv.red {a b : List Nat} (h : Eqv a b) {l : List Int} (ha : redB a l = true) : redB b l = true ∧ run b l = run a l := by
  obtain ⟨n, h⟩ := h
  induction h with
  | nil a => exact ⟨ha, rfl⟩
  | cons s _ ih =>
    obtain ⟨h1, h2⟩ := s.red ha
    obtain ⟨h3, h4⟩ := ih h1
    exact ⟨h3, h4.trans h2⟩
def inv : List Int → Nat
  | [] => 0
  | x :: r => r.countP (fun y => decide (y < x)) + inv r
theorem inv_sw : ∀ {j : Nat} {l : List Int}, dB j l = true → inv (sw j l) + 1 = inv l
  | 0, [], h => by cases h
  | 0, [_], h => by cases h
  | 0, x :: y :: r, h => by
    have hxy : y < x := of_decide_eq_true h
    show inv (y :: x :: r) + 1 = inv (x :: y :: r)
    simp only [inv]
    rw [List.countP_cons_of_neg (by simpa using (show ¬ x < y by omega)), List.countP_cons_of_pos (by simpa using hxy)]
    omega
  | j + 1, x :: r, h => by
    have ih := inv_sw (j := j) (l := r) h
    show inv (x :: sw j r) + 1 = inv (x :: r)
    simp only [inv]
    rw [(sw_perm j r).countP_eq]
    omega
  | _ + 1, [], h => by cases h
def firstD : List Int → Option Nat
  | x :: y :: r => if y < x then some 0 else (firstD (y :: r)).map (· + 1)
  | _ => none
theorem firstD_dB : ∀ {l : List Int} {j : Nat}, firstD l = some j → dB j l = true
  | [], _, h => by cases h
  | [_], _, h => by cases h
  | x :: y :: r, j, h => by
    rw [firstD] at h
    split at h
    · rename_i hxy
      injection h with h
      subst h
      exact decide_eq_true hxy
    · obtain ⟨k, hk, rfl⟩ := Option.map_eq_some_iff.1 h
      exact firstD_dB (l := y :: r) hk
theorem firstD_none : ∀ {l : List Int}, firstD l = none → ∀ j, dB j l = false
  | [], _, j => by cases j <;> rfl
  | [_], _, j => by
    cases j with
    | zero => rfl
    | succ j => cases j <;> rfl
  | x :: y :: r, h, j => by
    rw [firstD] at h
    split at h
    · cases h
    · rename_i hxy
      cases j with
      | zero => exact decide_eq_false hxy
      | succ j => exact firstD_none (l := y :: r) (Option.map_eq_none_iff.1 h) j
/-- The word of a permutation. -/
def wd (l : List Int) : List Nat :=
  match _h : firstD l with
  | none => []
  | some j => j :: wd (sw j l)
termination_by inv l
decreasing_by have := inv_sw (firstD_dB _h); omega
theorem wd_none {l : List Int} (h : firstD l = none) : wd l = [] := by
  rw [wd]
  split
  · rfl
  · rename_i h2; rw [h] at h2; cases h2
theorem wd_some {l : List Int} {j : Nat} (h : firstD l = some j) : wd l = j :: wd (sw j l) := by
  rw [wd]
  split
  · rename_i h2; rw [h] at h2; cases h2
  · rename_i h2
    rw [h] at h2
    injection h2 with h2
    subst h2
    rfl
theorem wd_head (N : Nat) : ∀ l : List Int, inv l ≤ N → ∀ k, dB k l = true → Eqv (wd l) (k :: wd (sw k l)) := by
  induction N with
  | zero => intro l hl k hk; have := inv_sw hk; omega
  | succ N ih =>
    intro l hl k hk
    have hik := inv_sw hk
    cases hf : firstD l with
    | none => rw [firstD_none hf k] at hk; cases hk
    | some h =>
      have hh := firstD_dB hf
      have hih := inv_sw hh
      rw [wd_some hf]
      have near : ∀ j, dB j l = true → dB (j + 1) l = true → ∃ T, Eqv (wd (sw j l)) ((j + 1) :: j :: T) ∧ Eqv (wd (sw (j + 1) l)) (j :: (j + 1) :: T) := by
        intro j h1 h2
        have g1 := inv_sw h1
        have g2 := inv_sw h2
        obtain ⟨a, x, y, z, b, rfl, ha⟩ := tri (dB_lt h2)
        rw [dB_at' ha] at h1
        rw [dB_at1 ha] at h2
        have h1 := of_decide_eq_true h1
        have h2 := of_decide_eq_true h2
        rw [sw_at' ha] at g1 ⊢
        rw [sw_at1 ha] at g2 ⊢
        have p1 : dB (j + 1) (a ++ y :: x :: z :: b) = true := by rw [dB_at1 ha]; exact decide_eq_true (by omega)
        have p2 : dB j (a ++ y :: z :: x :: b) = true := by rw [dB_at' ha]; exact decide_eq_true (by omega)
        have p3 : dB j (a ++ x :: z :: y :: b) = true := by rw [dB_at' ha]; exact decide_eq_true (by omega)
        have p4 : dB (j + 1) (a ++ z :: x :: y :: b) = true := by rw [dB_at1 ha]; exact decide_eq_true (by omega)
        have i1 := inv_sw p1
        have i3 := inv_sw p3
        have e1 := ih _ (by omega) _ p1
        have e3 := ih _ (by omega) _ p3
        rw [sw_at1 ha] at e1 i1
        rw [sw_at' ha] at e3 i3
        have e2 := ih _ (by omega) _ p2
        have e4 := ih _ (by omega) _ p4
        rw [sw_at' ha] at e2
        rw [sw_at1 ha] at e4
        exact ⟨_, e1.trans (e2.cons _), e3.trans (e4.cons _)⟩
      rcases three h k with rfl | hr | hr
      · exact .refl _
      · rcases hr with hr | hr
        · subst hr
          obtain ⟨T, t1, t2⟩ := near h hh hk
          exact ((t1.cons h).trans (nr [] T (.inl rfl))).trans (t2.symm.cons _)
        · subst hr
          obtain ⟨T, t1, t2⟩ := near k hk hh
          exact ((t2.cons _).trans (nr [] T (.inr rfl))).trans (t1.symm.cons _)
      · have e1 := ih (sw h l) (by omega) k (by rw [dB_apart hr.symm]; exact hk)
        have e2 := ih (sw k l) (by omega) h (by rw [dB_apart hr]; exact hh)
        rw [sw_apart hr] at e2
        exact ((e1.cons h).trans (fr [] _ hr)).trans (e2.symm.cons k)
theorem wd_start {l : List Int} {k : Nat} (h : dB k l = true) : Eqv (wd l) (k :: wd (sw k l)) := wd_head _ l (Nat.le_refl _) k h
/-- No descent is left. -/
def noD (l : List Int) : Prop := ∀ j, dB j l = false
theorem wd_noD {l : List Int} (h : noD l) : wd l = [] := by
  cases hf : firstD l with
  | none => exact wd_none hf
  | some j => have h1 := firstD_dB hf; rw [h j] at h1; cases h1
theorem wd_red (N : Nat) : ∀ l : List Int, inv l ≤ N → redB (wd l) l = true ∧ noD (run (wd l) l) := by
  induction N with
  | zero =>
    intro l hl
    cases hf : firstD l with
    | none => rw [wd_none hf]; exact ⟨rfl, firstD_none hf⟩
    | some j => have := inv_sw (firstD_dB hf); omega
  | succ N ih =>
    intro l hl
    cases hf : firstD l with
    | none => rw [wd_none hf]; exact ⟨rfl, firstD_none hf⟩
    | some j =>
      have h1 := firstD_dB hf
      have h2 := inv_sw h1
      obtain ⟨h3, h4⟩ := ih (sw j l) (by omega)
      rw [wd_some hf, redB_cons, h1, h3, run_cons]
      exact ⟨rfl, h4⟩
theorem red_wd : ∀ (u : List Nat) (l : List Int), redB u l = true → Eqv (u ++ wd (run u l)) (wd l)
  | [], l, _ => .refl _
  | j :: u, l, h => by
    rw [redB_cons, Bool.and_eq_true] at h
    exact ((red_wd u (sw j l) h.2).cons j).trans (wd_start h.1).symm
theorem red_end {u : List Nat} {l : List Int} (h : redB u l = true) (hn : noD (run u l)) : Eqv u (wd l) := by
  have := red_wd u l h
  rwa [wd_noD hn, List.append_nil] at this
theorem dv_red {u : List Nat} {l : List Int} (h : Dv u (wd l)) : redB u l = true := by
  obtain ⟨x, h⟩ := h
  have h1 := (h.symm.red (wd_red _ l (Nat.le_refl _)).1).1
  rw [redB_app, Bool.and_eq_true] at h1
  exact h1.1
theorem red_dv {u : List Nat} {l : List Int} (h : redB u l = true) : Dv u (wd l) := ⟨_, red_wd u l h⟩
theorem run_wd (l : List Int) : noD (run (wd l) l) := (wd_red _ l (Nat.le_refl _)).2
theorem wd_redB (l : List Int) : redB (wd l) l = true := (wd_red _ l (Nat.le_refl _)).1
/-- What is a descent stays one in another order that has all inversions of the first. -/
theorem red_pair : ∀ (w : List Nat) (L : List (Int × Int)), L.Pairwise (fun x y => y.1 < x.1 → y.2 < x.2) → redB w (L.map Prod.fst) = true → redB w (L.map Prod.snd) = true
  | [], _, _, _ => rfl
  | j :: w, L, hp, h => by
    rw [redB_cons, Bool.and_eq_true] at h
    obtain ⟨h1, h2⟩ := h
    have hl := dB_lt h1
    rw [List.length_map] at hl
    rw [sw_map] at h2
    obtain ⟨a, x, y, b, rfl, ha⟩ := bi hl
    have hm : (a.map Prod.fst).length = j := by rw [List.length_map, ha]
    have hm2 : (a.map Prod.snd).length = j := by rw [List.length_map, ha]
    rw [List.map_append, List.map_cons, List.map_cons, dB_at' hm] at h1
    have h1 := of_decide_eq_true h1
    rw [sw_at' ha] at h2
    rw [redB_cons, sw_map, sw_at' ha, List.map_append, List.map_cons, List.map_cons, dB_at' hm2, Bool.and_eq_true]
    have hp' := hp
    rw [List.pairwise_append, List.pairwise_cons, List.pairwise_cons] at hp'
    obtain ⟨q1, ⟨q2, q3, q4⟩, q5⟩ := hp'
    refine ⟨decide_eq_true (q2 y (by simp) h1), ?_⟩
    refine red_pair w (a ++ y :: x :: b) ?_ h2
    rw [List.pairwise_append, List.pairwise_cons, List.pairwise_cons]
    refine ⟨q1, ⟨?_, fun z hz => q2 z (by simp [hz]), q4⟩, fun u hu v hv => q5 u hu v ?_⟩
    · intro z hz
      rcases List.mem_cons.1 hz with rfl | hz
      · intro h; omega
      · exact q3 z hz
    · simp only [List.mem_cons] at hv ⊢
      rcases hv with h | h | h
      · exact .inr (.inl h)
      · exact .inl h
      · exact .inr (.inr h)
/-- The numbers 0 .. n - 1, and downwards. -/
def idl (n : Nat) : List Int := (List.range n).map Int.ofNat
def halfl (n : Nat) : List Int := (idl n).map (fun x => (n : Int) - 1 - x)
def Pm (n : Nat) (l : List Int) : Prop := List.Perm l (idl n)
theorem idl_length (n : Nat) : (idl n).length = n := by simp [idl]
theorem halfl_length (n : Nat) : (halfl n).length = n := by simp [halfl, idl]
theorem idl_mem {n : Nat} {x : Int} : x ∈ idl n ↔ 0 ≤ x ∧ x < n := by
  unfold idl
  rw [List.mem_map]
  constructor
  · rintro ⟨k, hk, rfl⟩
    rw [List.mem_range] at hk
    simp; omega
  · intro h
    exact ⟨x.toNat, by rw [List.mem_range]; omega, by simp; omega⟩
theorem idl_get {n i : Nat} (h : i < n) : (idl n)[i]? = some (i : Int) := by simp [idl, h]
theorem idl_sorted (n : Nat) : (idl n).Pairwise (· < ·) := by
  unfold idl
  rw [List.pairwise_map]
  exact List.Pairwise.imp (fun h => by simpa using h) List.pairwise_lt_range
theorem halfl_sorted (n : Nat) : (halfl n).Pairwise (fun x y => y < x) := by
  unfold halfl
  rw [List.pairwise_map]
  exact (idl_sorted n).imp fun h => by omega
theorem noD_pair : ∀ {l : List Int}, noD l → l.Pairwise (· ≤ ·)
  | [], _ => List.Pairwise.nil
  | [_], _ => List.pairwise_singleton _ _
  | x :: y :: r, h => by
    have h0 : ¬ y < x := of_decide_eq_false (h 0)
    have ih := noD_pair (l := y :: r) fun j => h (j + 1)
    refine List.pairwise_cons.2 ⟨fun z hz => ?_, ih⟩
    rcases List.mem_cons.1 hz with rfl | hz
    · omega
    · have := (List.pairwise_cons.1 ih).1 z hz; omega
theorem pair_noD : ∀ {l : List Int}, l.Pairwise (· < ·) → noD l
  | [], _, j => by cases j <;> rfl
  | [_], _, j => by
    cases j with
    | zero => rfl
    | succ j => cases j <;> rfl
  | x :: y :: r, h, j => by
    obtain ⟨h1, h2⟩ := List.pairwise_cons.1 h
    cases j with
    | zero => have := h1 y (by simp); exact decide_eq_false (by omega)
    | succ j => exact pair_noD (l := y :: r) h2 j
theorem Pm.noD {n : Nat} {l : List Int} (h : Pm n l) (hn : noD l) : l = idl n :=
  List.Perm.eq_of_pairwise (le := (· ≤ ·)) (fun a b _ _ h1 h2 => by omega) (noD_pair hn) ((idl_sorted n).imp fun h => by omega) h
theorem Pm.len {n : Nat} {l : List Int} (h : Pm n l) : l.length = n := by rw [h.length_eq, idl_length]
theorem Pm.mem {n : Nat} {l : List Int} (h : Pm n l) {x : Int} : x ∈ l ↔ 0 ≤ x ∧ x < n := by rw [List.Perm.mem_iff h, idl_mem]
theorem Pm.sw {n : Nat} {l : List Int} (h : Pm n l) (j : Nat) : Pm n (sw j l) := (sw_perm j l).trans h
theorem Pm.run {n : Nat} {l : List Int} (h : Pm n l) (w : List Nat) : Pm n (run w l) := (run_perm w l).trans h
theorem Pm.id (n : Nat) : Pm n (idl n) := .refl _
theorem Pm.runs {n : Nat} {l : List Int} (h : Pm n l) : Br.run (wd l) l = idl n := (h.run _).noD (run_wd l)
theorem Pm.nodup {n : Nat} {l : List Int} (h : Pm n l) : l.Nodup := by
  refine (List.Perm.nodup_iff h).2 ?_
  exact (idl_sorted n).imp fun h e => by omega
theorem idl_noD (n : Nat) : noD (idl n) := pair_noD (idl_sorted n)
/-- Every reduced word divides the half twist. -/
theorem red_half {n : Nat} {w : List Nat} {l : List Int} (hl : l.length = n) (h : redB w l = true) : redB w (halfl n) = true := by
  have e1 : (l.zip (halfl n)).map Prod.fst = l := List.map_fst_zip (by rw [hl, halfl_length]; exact Nat.le_refl _)
  have e2 : (l.zip (halfl n)).map Prod.snd = halfl n := List.map_snd_zip (by rw [hl, halfl_length]; exact Nat.le_refl _)
  rw [← e2]
  refine red_pair w _ ?_ (by rw [e1]; exact h)
  have h3 := halfl_sorted n
  rw [← e2, List.pairwise_map] at h3
  refine List.Pairwise.imp ?_ h3
  intro a b h _
  exact h
/-- Two numbers change places. -/
def fv (k : Nat) (v : Int) : Int := if v = k then k + 1 else if v = k + 1 then k else v
def bh (k : Nat) (l : List Int) : List Int := l.map (fv k)
theorem idl_bi {n k : Nat} (h : k + 1 < n) : ∃ a b, idl n = a ++ (k : Int) :: ((k : Int) + 1) :: b ∧ a.length = k ∧ (∀ x ∈ a, x < k) ∧ (∀ x ∈ b, (k : Int) + 1 < x) := by
  obtain ⟨a, x, y, b, he, ha⟩ := bi (l := idl n) (j := k) (by rw [idl_length]; exact h)
  have h1 : (idl n)[k]? = some x := by rw [he, List.getElem?_append_right (by omega), ha, Nat.sub_self]; rfl
  have h2 : (idl n)[k + 1]? = some y := by rw [he, List.getElem?_append_right (by omega), ha, Nat.add_sub_cancel_left]; rfl
  rw [idl_get (by omega)] at h1 h2
  injection h1 with h1
  injection h2 with h2
  subst h1 h2
  have hs := idl_sorted n
  rw [he, List.pairwise_append, List.pairwise_cons, List.pairwise_cons] at hs
  obtain ⟨_, ⟨_, h3, _⟩, h4⟩ := hs
  have e : ((k + 1 : Nat) : Int) = (k : Int) + 1 := by omega
  rw [e] at he h3
  exact ⟨a, b, he, ha, fun x hx => h4 x hx k (by simp), h3⟩
theorem fv_id {k : Nat} {l : List Int} (h : ∀ x ∈ l, x ≠ k ∧ x ≠ (k : Int) + 1) : l.map (fv k) = l := by
  have : l.map (fv k) = l.map (fun x => x) := List.map_congr_left fun x hx => by
    obtain ⟨h1, h2⟩ := h x hx
    rw [fv, if_neg h1, if_neg h2]
  rw [this, List.map_id']
theorem fv_k (k : Nat) : fv k k = (k : Int) + 1 := by rw [fv, if_pos rfl]
theorem fv_k1 (k : Nat) : fv k ((k : Int) + 1) = k := by rw [fv, if_neg (by omega), if_pos rfl]
theorem idl_fv {n k : Nat} (h : k + 1 < n) : (idl n).map (fv k) = sw k (idl n) ∧ dB k (sw k (idl n)) = true := by
  obtain ⟨a, b, he, ha, h1, h2⟩ := idl_bi h
  rw [he, sw_at' ha, List.map_append, List.map_cons, List.map_cons, fv_k, fv_k1, fv_id fun x hx => by have := h1 x hx; omega, fv_id fun x hx => by have := h2 x hx; omega, dB_at' ha]
  exact ⟨rfl, decide_eq_true (by omega)⟩
theorem Pm.bh {n k : Nat} {l : List Int} (h : Pm n l) (hk : k + 1 < n) : Pm n (bh k l) := by
  have h1 : List.Perm (l.map (fv k)) ((idl n).map (fv k)) := List.Perm.map _ h
  rw [(idl_fv hk).1] at h1
  exact h1.trans (sw_perm k _)
/-- The greater of two neighbouring numbers does not stand before the lesser one. -/
def ordK (k : Nat) (l : List Int) : Prop := l.Pairwise (fun x y => ¬ (x = (k : Int) + 1 ∧ y = k))
/-- A letter behind. -/
theorem wd_behind {n k : Nat} {l : List Int} (h : Pm n l) (hk : k + 1 < n) (ho : ordK k l) : Eqv (wd (bh k l)) (wd l ++ [k]) := by
  obtain ⟨f1, f2⟩ := idl_fv hk
  have e1 : (l.map (fun v => (v, fv k v))).map Prod.fst = l := by rw [List.map_map]; exact List.map_id' _
  have e2 : (l.map (fun v => (v, fv k v))).map Prod.snd = bh k l := by rw [List.map_map]; rfl
  have h1 : redB (wd l) (bh k l) = true := by
    rw [← e2]
    refine red_pair _ _ ?_ (by rw [e1]; exact wd_redB l)
    rw [List.pairwise_map]
    refine List.Pairwise.imp ?_ ho
    intro x y hxy hlt
    simp only at hlt ⊢
    unfold fv
    split <;> split <;> (try split) <;> (try split) <;> omega
  have h2 : run (wd l) (bh k l) = sw k (idl n) := by rw [bh, run_map, h.runs, f1]
  refine (red_end (l := bh k l) ?_ ?_).symm
  · rw [redB_app, h1, h2, redB_cons, f2]; rfl
  · rw [run_app, h2, run_cons, run_nil, sw_sw]; exact idl_noD n
theorem halfl_Pm (n : Nat) : Pm n (halfl n) := by
  have h1 : (halfl n) = (idl n).reverse := by
    refine List.ext_getElem? fun i => ?_
    by_cases hi : i < n
    · rw [List.getElem?_reverse (by rw [idl_length]; exact hi), idl_length, idl_get (by omega), halfl, List.getElem?_map, idl_get hi]
      simp; omega
    · rw [List.getElem?_eq_none (by rw [halfl_length]; omega), List.getElem?_eq_none (by rw [List.length_reverse, idl_length]; omega)]
  rw [h1]
  exact List.reverse_perm _
theorem half_bi {n j : Nat} (h : j + 1 < n) : ∃ a b, halfl n = a ++ ((n - 2 - j : Nat) + 1 : Int) :: ((n - 2 - j : Nat) : Int) :: b ∧ a.length = j ∧ (∀ x ∈ a, ((n - 2 - j : Nat) : Int) + 1 < x) ∧ (∀ x ∈ b, x < ((n - 2 - j : Nat) : Int)) := by
  obtain ⟨a, b, he, ha, h1, h2⟩ := idl_bi h
  refine ⟨a.map (fun x => (n : Int) - 1 - x), b.map (fun x => (n : Int) - 1 - x), ?_, by simp [ha], ?_, ?_⟩
  · rw [halfl, he, List.map_append, List.map_cons, List.map_cons]
    congr 2
    · omega
    · congr 1; omega
  · intro x hx
    obtain ⟨y, hy, rfl⟩ := List.mem_map.1 hx
    have := h1 y hy; omega
  · intro x hx
    obtain ⟨y, hy, rfl⟩ := List.mem_map.1 hx
    have := h2 y hy; omega
theorem half_dB {n j : Nat} (h : j + 1 < n) : dB j (halfl n) = true := by
  obtain ⟨a, b, he, ha, _, _⟩ := half_bi h
  rw [he, dB_at' ha]
  exact decide_eq_true (by omega)
/-- The half twist. -/
def D (n : Nat) : List Nat := wd (halfl n)
theorem half_bh {n j : Nat} (h : j + 1 < n) : bh (n - 2 - j) (sw j (halfl n)) = halfl n ∧ bh (n - 2 - j) (halfl n) = sw j (halfl n) ∧ ordK (n - 2 - j) (sw j (halfl n)) := by
  obtain ⟨a, b, he, ha, h1, h2⟩ := half_bi h
  generalize n - 2 - j = m at *
  have i1 := fv_id (k := m) (l := a) fun x hx => by have := h1 x hx; omega
  have i2 := fv_id (k := m) (l := b) fun x hx => by have := h2 x hx; omega
  rw [he, sw_at' ha]
  refine ⟨?_, ?_, ?_⟩
  · rw [bh, List.map_append, List.map_cons, List.map_cons, fv_k, fv_k1, i1, i2]
  · rw [bh, List.map_append, List.map_cons, List.map_cons, fv_k, fv_k1, i1, i2]
  · unfold ordK
    rw [List.pairwise_append, List.pairwise_cons, List.pairwise_cons]
    have ne : ∀ {l : List Int}, (∀ x ∈ l, x ≠ (m : Int) + 1) → l.Pairwise (fun x y => ¬ (x = (m : Int) + 1 ∧ y = m)) := fun {l} h => by
      refine List.pairwise_iff_forall_sublist.2 fun {x y} hs hxy => ?_
      exact h x (hs.subset (by simp)) hxy.1
    refine ⟨ne fun x hx => by have := h1 x hx; omega, ⟨fun x _ hx => by omega, fun x hx hh => by have := h2 x hx; omega, ne fun x hx => by have := h2 x hx; omega⟩, fun x hx y _ hh => by have := h1 x hx; omega⟩
/-- What is left of the half twist before its last letter. -/
theorem D_last {n j : Nat} (h : j + 1 < n) : Eqv (D n) (wd (sw j (halfl n)) ++ [n - 2 - j]) := by
  obtain ⟨h1, _, h3⟩ := half_bh h
  have := wd_behind ((halfl_Pm n).sw j) (show (n - 2 - j) + 1 < n by omega) h3
  rw [h1] at this
  exact this
theorem D_first {n j : Nat} (h : j + 1 < n) : Eqv (D n) (j :: wd (sw j (halfl n))) := wd_start (half_dB h)
/-- X' is X turned by the half twist. -/
def Fl (n : Nat) (X X' : List Nat) : Prop := Eqv (X ++ D n) (D n ++ X')
theorem Fl.nil (n : Nat) : Fl n [] [] := by unfold Fl; rw [List.nil_append, List.append_nil]; exact .refl _
theorem Fl.app {n : Nat} {X X' Y Y' : List Nat} (h : Fl n X X') (k : Fl n Y Y') : Fl n (X ++ Y) (X' ++ Y') := by
  unfold Fl at *
  have e1 : Eqv (X ++ Y ++ D n) (X ++ (D n ++ Y')) := by rw [List.append_assoc]; exact k.pre X
  have e2 : Eqv (X ++ (D n ++ Y')) (D n ++ (X' ++ Y')) := by rw [← List.append_assoc, ← List.append_assoc]; exact h.post Y'
  exact e1.trans e2
theorem Fl.uniq {n : Nat} {X X' Y Y' : List Nat} (h : Fl n X X') (k : Fl n Y Y') (e : Eqv X Y) : Eqv X' Y' := cancelL ((h.symm.trans (e.post _)).trans k)
theorem Fl.eqv {n : Nat} {X X' Y Y' : List Nat} (h : Fl n X X') (e : Eqv X Y) (e' : Eqv X' Y') : Fl n Y Y' := ((e.symm.post _).trans h).trans (e'.pre _)
theorem Fl.D (n : Nat) : Fl n (D n) (D n) := .refl _
theorem Fl.one {n j : Nat} (h : j + 1 < n) : Fl n [j] [n - 2 - j] := by
  unfold Fl
  exact ((D_last h).cons j).trans ((D_first h).symm.post [n - 2 - j])
/-- A permutation turned. -/
def flipl (l : List Int) : List Int := (l.map (fun x => (l.length : Int) - 1 - x)).reverse
theorem flip_step {l : List Int} {j : Nat} (h : j + 1 < l.length) : sw (l.length - 2 - j) (flipl l) = flipl (sw j l) ∧ dB (l.length - 2 - j) (flipl l) = dB j l := by
  have hl := sw_length j l
  unfold flipl
  rw [hl]
  generalize hn : l.length = n at *
  obtain ⟨a, x, y, b, rfl, ha⟩ := bi (show j + 1 < l.length by omega)
  have hb : (b.map (fun x => (n : Int) - 1 - x)).reverse.length = n - 2 - j := by
    rw [List.length_reverse, List.length_map]
    simp only [List.length_append, List.length_cons] at hn
    omega
  rw [sw_at' ha]
  simp only [List.map_append, List.map_cons, List.reverse_append, List.reverse_cons, List.append_assoc, List.cons_append, List.nil_append]
  rw [sw_at' hb, dB_at' hb, dB_at' ha]
  refine ⟨rfl, ?_⟩
  by_cases hxy : y < x
  · rw [decide_eq_true hxy, decide_eq_true (by omega)]
  · rw [decide_eq_false hxy, decide_eq_false (by omega)]
theorem flip_red : ∀ (w : List Nat) (l : List Int), redB w l = true → redB (w.map (fun j => l.length - 2 - j)) (flipl l) = true ∧ run (w.map (fun j => l.length - 2 - j)) (flipl l) = flipl (run w l)
  | [], l, _ => ⟨rfl, rfl⟩
  | j :: w, l, h => by
    rw [redB_cons, Bool.and_eq_true] at h
    obtain ⟨h1, h2⟩ := flip_step (dB_lt h.1)
    obtain ⟨h3, h4⟩ := flip_red w (sw j l) h.2
    rw [sw_length] at h3 h4
    rw [List.map_cons, redB_cons, run_cons, h1, h2, h.1, h3, h4]
    exact ⟨rfl, rfl⟩
theorem flip_id (n : Nat) : flipl (idl n) = idl n := by
  refine List.ext_getElem? fun i => ?_
  unfold flipl
  by_cases hi : i < n
  · rw [List.getElem?_reverse (by rw [List.length_map, idl_length]; exact hi), List.length_map, idl_length, List.getElem?_map, idl_get (by omega), idl_get hi]
    simp; omega
  · rw [List.getElem?_eq_none (by rw [List.length_reverse, List.length_map, idl_length]; omega), List.getElem?_eq_none (by rw [idl_length]; omega)]
theorem Pm.flip {n : Nat} {l : List Int} (h : Pm n l) : Pm n (flipl l) := by
  have h1 := h.len
  unfold flipl
  rw [h1]
  have h2 : List.Perm (l.map (fun x => (n : Int) - 1 - x)) (halfl n) := List.Perm.map _ h
  exact ((List.reverse_perm _).trans h2).trans (halfl_Pm n)
theorem wd_lt : ∀ (w : List Nat) (l : List Int), redB w l = true → ∀ j ∈ w, j + 1 < l.length
  | [], _, _, j, hj => by cases hj
  | k :: w, l, h, j, hj => by
    rw [redB_cons, Bool.and_eq_true] at h
    rcases List.mem_cons.1 hj with rfl | hj
    · exact dB_lt h.1
    · have := wd_lt w (sw k l) h.2 j hj
      rwa [sw_length] at this
theorem Fl.map {n : Nat} : ∀ (w : List Nat), (∀ j ∈ w, j + 1 < n) → Fl n w (w.map (fun j => n - 2 - j))
  | [], _ => .nil n
  | j :: w, h => (Fl.one (h j (by simp))).app (Fl.map w fun k hk => h k (by simp [hk]))
theorem Fl.perm {n : Nat} {l : List Int} (h : Pm n l) : Fl n (wd l) (wd (flipl l)) := by
  have hr := wd_redB l
  obtain ⟨h1, h2⟩ := flip_red (wd l) l hr
  rw [h.runs, flip_id] at h2
  have h3 := red_end h1 (by rw [h2]; exact idl_noD n)
  have h4 := Fl.map (n := n) (wd l) (fun j hj => by have := wd_lt _ _ hr j hj; rwa [h.len] at this)
  rw [h.len] at h3
  exact h4.eqv (.refl _) h3

end Go.Proofs.YtnjgmhdmjaijgaaGreat.Br

/- Normal forms of braids, plain: what divides a left-weighted product divides its first factor, and left-weighted products are unique. -/
namespace Go.Proofs.YtnjgmhdmjaijgaaGreat.Br

/-- The inverse. -/
def invl (l : List Int) : List Int := (List.range l.length).map (fun v : Nat => ((l.idxOf (v : Int) : Nat) : Int))
theorem invl_length (l : List Int) : (invl l).length = l.length := by simp [invl]
theorem idx_get : ∀ {l : List Int} {i : Nat} {v : Int}, l.Nodup → l[i]? = some v → l.idxOf v = i
  | [], _, _, _, h => by simp at h
  | x :: l, 0, v, _, h => by
    simp only [List.getElem?_cons_zero, Option.some.injEq] at h
    subst h
    exact List.idxOf_cons_self
  | x :: l, i + 1, v, hn, h => by
    rw [List.nodup_cons] at hn
    rw [List.getElem?_cons_succ] at h
    have hm := List.mem_of_getElem? h
    have hne : (x == v) = false := by
      rw [beq_eq_false_iff_ne]
      intro e
      exact hn.1 (e ▸ hm)
    rw [List.idxOf_cons, hne, idx_get hn.2 h]
    rfl
theorem invl_get {n : Nat} {l : List Int} (h : Pm n l) {i : Nat} {v : Nat} (hi : l[i]? = some (v : Int)) : (invl l)[v]? = some (i : Int) := by
  have hv := (h.mem.1 (List.mem_of_getElem? hi)).2
  have hl := h.len
  unfold invl
  rw [List.getElem?_map, List.getElem?_range (by omega)]
  simp only [Option.map_some]
  rw [idx_get h.nodup hi]
theorem invl_uniq {n : Nat} {l r : List Int} (h : Pm n l) (hr : r.length = n) (hg : ∀ i v : Nat, l[i]? = some (v : Int) → r[v]? = some (i : Int)) : r = invl l := by
  refine List.ext_getElem? fun v => ?_
  by_cases hv : v < n
  · have hm : (v : Int) ∈ l := h.mem.2 (by omega)
    obtain ⟨i, hi, he⟩ := List.mem_iff_getElem.1 hm
    have h1 : l[i]? = some (v : Int) := by rw [List.getElem?_eq_getElem hi, he]
    rw [hg i v h1, invl_get h h1]
  · rw [List.getElem?_eq_none (by omega), List.getElem?_eq_none (by rw [invl_length, h.len]; omega)]
/-- The inverse is what the word makes of the numbers in order. -/
theorem invl_run {n : Nat} {l : List Int} (h : Pm n l) : run (wd l) (idl n) = invl l := by
  have hr := (Pm.id n).run (wd l)
  refine invl_uniq h hr.len fun i v hiv => ?_
  have hil : i < n := by rw [← h.len]; exact (List.getElem?_eq_some_iff.1 hiv).1
  have e1 : (idl n).map (fun x => l.getD x.toNat 0) = l := by
    refine List.ext_getElem? fun j => ?_
    by_cases hj : j < n
    · rw [List.getElem?_map, idl_get hj]
      have hj2 : j < l.length := by rw [h.len]; exact hj
      simp [List.getElem?_eq_getElem hj2]
    · rw [List.getElem?_eq_none (by rw [List.length_map, idl_length]; omega), List.getElem?_eq_none (by rw [h.len]; omega)]
  have e2 : (run (wd l) (idl n)).map (fun x => l.getD x.toNat 0) = idl n := by rw [← run_map, e1, h.runs]
  have hv := (h.mem.1 (List.mem_of_getElem? hiv))
  have hvn : v < n := by omega
  have h3 : v < (run (wd l) (idl n)).length := by rw [hr.len]; exact hvn
  generalize hR : run (wd l) (idl n) = R at *
  have h4 : (R.map (fun x => l.getD x.toNat 0))[v]? = some (v : Int) := by rw [e2, idl_get hvn]
  rw [List.getElem?_map, List.getElem?_eq_getElem h3, Option.map_some] at h4
  injection h4 with h4
  have h5 := hr.mem.1 (List.getElem_mem h3)
  have h6 : l[(R[v]).toNat]? = some (v : Int) := by
    have hlt : (R[v]).toNat < l.length := by rw [h.len]; omega
    rw [List.getElem?_eq_getElem hlt, ← h4]
    simp [List.getElem?_eq_getElem hlt]
  have h7 := idx_get h.nodup h6
  rw [idx_get h.nodup hiv] at h7
  rw [List.getElem?_eq_getElem h3]
  congr 1
  omega
/-- A letter with which a permutation can end. -/
def finB (k : Nat) (l : List Int) : Bool := dB k (invl l)
theorem dB_get {k : Nat} {l : List Int} {x y : Int} (hx : l[k]? = some x) (hy : l[k + 1]? = some y) : dB k l = decide (y < x) := by
  have hlt := (List.getElem?_eq_some_iff.1 hy).1
  obtain ⟨a, x', y', b, rfl, ha⟩ := bi hlt
  rw [List.getElem?_append_right (by omega), ha, Nat.sub_self] at hx
  rw [List.getElem?_append_right (by omega), ha, Nat.add_sub_cancel_left] at hy
  simp only [List.getElem?_cons_zero, List.getElem?_cons_succ, Option.some.injEq] at hx hy
  subst hx hy
  exact dB_at' ha _ _ _
theorem fin_ord {n k : Nat} {l : List Int} (h : Pm n l) (hf : finB k l = false) : ordK k l := by
  unfold ordK
  rw [List.pairwise_iff_getElem]
  intro i j hi hj hij hh
  have h1 : l[i]? = some ((k + 1 : Nat) : Int) := by rw [List.getElem?_eq_getElem hi, hh.1]; simp
  have h2 : l[j]? = some (k : Int) := by rw [List.getElem?_eq_getElem hj, hh.2]
  have g1 := invl_get h h1
  have g2 := invl_get h h2
  rw [finB, dB_get g2 g1] at hf
  have := of_decide_eq_false hf
  omega
theorem dB_neg {k : Nat} {l : List Int} {c : Int} (h : dB k l = true) : dB k (l.map (fun x => c - x)) = false := by
  obtain ⟨a, x, y, b, rfl, ha⟩ := bi (dB_lt h)
  rw [dB_at' ha] at h
  have h := of_decide_eq_true h
  rw [List.map_append, List.map_cons, List.map_cons, dB_at' (by simpa using ha)]
  exact decide_eq_false (by omega)
theorem fin_stop {n k : Nat} {l : List Int} (h : Pm n l) (hf : finB k l = true) : redB (wd l ++ [k]) (halfl n) = false := by
  have e : run (wd l) (halfl n) = (invl l).map (fun x => (n : Int) - 1 - x) := by rw [halfl, run_map, invl_run h]
  rw [redB_app, e, redB_cons, dB_neg hf]
  simp
/-- The product of factors. -/
def prod (F : List (List Int)) : List Nat := (F.map wd).flatten
theorem prod_nil : prod [] = [] := rfl
theorem prod_cons (p : List Int) (F : List (List Int)) : prod (p :: F) = wd p ++ prod F := rfl
theorem prod_app (F G : List (List Int)) : prod (F ++ G) = prod F ++ prod G := by simp [prod]
/-- Each letter with which the next factor can begin is one with which a factor can end. -/
def lwB (p q : List Int) : Prop := ∀ k, dB k q = true → finB k p = true
def LW : List (List Int) → Prop
  | p :: q :: F => lwB p q ∧ LW (q :: F)
  | _ => True
theorem LW.tail {p : List Int} {F : List (List Int)} (h : LW (p :: F)) : LW F := by
  cases F with
  | nil => trivial
  | cons q F => exact h.2
theorem wd_half {n : Nat} {l : List Int} (h : Pm n l) : redB (wd l) (halfl n) = true := red_half h.len (wd_redB l)
/-- What divides a left-weighted product and the half twist divides the first factor. -/
theorem head {n : Nat} : ∀ (G : List (List Int)) (g : List Int) (u : List Nat), (∀ p ∈ g :: G, Pm n p) → LW (g :: G) → redB u (halfl n) = true → Dv u (prod (g :: G)) → Dv u (wd g)
  | [], g, u, _, _, _, h => by rwa [prod_cons, prod_nil, List.append_nil] at h
  | g2 :: G, g, u, hp, hw, hu, h => by
    have hg := hp g (by simp)
    rw [prod_cons] at h
    obtain ⟨v, z, e, hmin⟩ := lcm _ (wd g) u (wd g ++ prod (g2 :: G)) (Nat.le_refl _) (.app _ _) h
    have hD : Dv (wd g ++ v) (D n) := hmin (D n) (red_dv (wd_half hg)) (red_dv hu)
    have hM : Dv v (prod (g2 :: G)) := Dv.cancel (hmin _ (.app _ _) h)
    cases v with
    | nil => rw [List.append_nil] at e; exact ⟨z, e.symm⟩
    | cons k v =>
      have h1 : redB (wd g ++ [k]) (halfl n) = true := by
        have h2 := dv_red hD
        rw [show wd g ++ k :: v = (wd g ++ [k]) ++ v by simp, redB_app, Bool.and_eq_true] at h2
        exact h2.1
      have hk : k + 1 < n := by have := wd_lt _ _ h1 k (by simp); rwa [halfl_length] at this
      have h3 : Dv [k] (wd g2) := head G g2 [k] (fun p hpm => hp p (by simp [hpm])) hw.2 (by rw [redB_cons, half_dB hk]; rfl) (by obtain ⟨y, hy⟩ := hM; exact ⟨v ++ y, by simpa using hy⟩)
      have h4 := dv_red h3
      rw [redB_cons, Bool.and_eq_true] at h4
      rw [fin_stop hg (hw.1 k h4.1)] at h1
      cases h1
theorem dv_nil {w : List Nat} (h : Eqv w []) : w = [] := List.eq_nil_of_length_eq_zero h.len
theorem dv_both {u v : List Nat} (h : Dv u v) (k : Dv v u) : Eqv u v := by
  obtain ⟨x, h⟩ := h
  obtain ⟨y, k⟩ := k
  have h1 := h.len
  have h2 := k.len
  simp only [List.length_append] at h1 h2
  have : x = [] := List.eq_nil_of_length_eq_zero (by omega)
  subst this
  rwa [List.append_nil] at h
theorem wd_inj {n : Nat} {p q : List Int} (hp : Pm n p) (hq : Pm n q) (h : Eqv (wd p) (wd q)) : p = q := by
  have h1 := (h.symm.red (wd_redB q)).2
  refine run_inj (w := wd p) ?_
  rw [hp.runs, h1, hq.runs]
theorem wd_empty {n : Nat} {p : List Int} (hp : Pm n p) (h : wd p = []) : p = idl n := by
  have := hp.runs
  rw [h] at this
  exact this
theorem wd_idl (n : Nat) : wd (idl n) = [] := wd_noD (idl_noD n)
theorem uniq {n : Nat} : ∀ (F G : List (List Int)), (∀ p ∈ F, Pm n p ∧ p ≠ idl n) → (∀ p ∈ G, Pm n p ∧ p ≠ idl n) → LW F → LW G → Eqv (prod F) (prod G) → F = G
  | [], [], _, _, _, _, _ => rfl
  | [], g :: G, _, hg, _, _, h => by
    have h1 := dv_nil h.symm
    rw [prod_cons, List.append_eq_nil_iff] at h1
    obtain ⟨h2, h3⟩ := hg g (by simp)
    exact absurd (wd_empty h2 h1.1) h3
  | f :: F, [], hf, _, _, _, h => by
    have h1 := dv_nil h
    rw [prod_cons, List.append_eq_nil_iff] at h1
    obtain ⟨h2, h3⟩ := hf f (by simp)
    exact absurd (wd_empty h2 h1.1) h3
  | f :: F, g :: G, hf, hg, lf, lg, h => by
    have pf := (hf f (by simp)).1
    have pg := (hg g (by simp)).1
    have d1 := head F f (wd g) (fun p hp => (hf p hp).1) lf (wd_half pg) ((Dv.app (wd g) (prod G)).eqv h.symm)
    have d2 := head G g (wd f) (fun p hp => (hg p hp).1) lg (wd_half pf) ((Dv.app (wd f) (prod F)).eqv h)
    have e := wd_inj pf pg (dv_both d2 d1)
    subst e
    rw [prod_cons, prod_cons] at h
    rw [uniq F G (fun p hp => hf p (by simp [hp])) (fun p hp => hg p (by simp [hp])) lf.tail lg.tail (cancelL h)]
/-- Powers of the half twist. -/
def Dp (n : Nat) : Nat → List Nat
  | 0 => []
  | k + 1 => D n ++ Dp n k
theorem Dp_add (n : Nat) : ∀ a b, Dp n (a + b) = Dp n a ++ Dp n b
  | 0, b => by rw [Nat.zero_add]; rfl
  | a + 1, b => by rw [Nat.add_right_comm, Dp, Dp_add n a b, Dp, List.append_assoc]
theorem Dp_comm (n a b : Nat) : Dp n a ++ Dp n b = Dp n b ++ Dp n a := by rw [← Dp_add, ← Dp_add, Nat.add_comm]
theorem Dp_one (n : Nat) : Dp n 1 = D n := by simp [Dp]
theorem Dp_snoc (n a : Nat) : Dp n (a + 1) = Dp n a ++ D n := by rw [Dp_add, Dp_one]
theorem Fl.pow (n : Nat) : ∀ a, Fl n (Dp n a) (Dp n a)
  | 0 => .nil n
  | a + 1 => (Fl.D n).app (Fl.pow n a)
/-- A left-weighted product that is a power of the half twist consists of half twists and nothing. -/
theorem all_half {n : Nat} : ∀ (m : Nat) (F : List (List Int)), (∀ p ∈ F, Pm n p) → LW F → Eqv (prod F) (Dp n m) → (1 < n ∨ m = 0) → (∀ p ∈ F, p = idl n ∨ p = halfl n) ∧ (F.countP (fun p => decide (p ≠ idl n)) = m)
  | 0, F, hp, _, h, _ => by
    have h1 := dv_nil h
    have h2 : ∀ p ∈ F, p = idl n := fun p hpm => by
      refine wd_empty (hp p hpm) ?_
      unfold prod at h1
      rw [List.flatten_eq_nil_iff] at h1
      exact h1 _ (List.mem_map_of_mem hpm)
    exact ⟨fun p hpm => .inl (h2 p hpm), by rw [List.countP_eq_zero]; intro p hpm; simp [h2 p hpm]⟩
  | m + 1, [], _, _, h, hn => by
    have h1 := h.len
    rw [Dp, prod_nil, List.length_nil, List.length_append] at h1
    have h2 : (D n).length = 0 := by omega
    have h3 := wd_empty (halfl_Pm n) (List.eq_nil_of_length_eq_zero h2)
    have h4 : dB 0 (halfl n) = true := half_dB (by omega)
    rw [h3, idl_noD n 0] at h4
    cases h4
  | m + 1, f :: F, hp, lf, h, hn => by
    have pf := hp f (by simp)
    have hH : redB (D n) (halfl n) = true := wd_redB _
    have d1 : Dv (D n) (wd f) := head F f (D n) hp lf hH ((Dv.app (D n) (Dp n m)).eqv h.symm)
    have d2 : Dv (wd f) (D n) := red_dv (wd_half pf)
    have e := wd_inj pf (halfl_Pm n) (dv_both d2 d1)
    subst e
    have hn' : halfl n ≠ idl n := by
      intro e
      have h4 : dB 0 (halfl n) = true := half_dB (by omega)
      rw [e, idl_noD n 0] at h4
      cases h4
    rw [prod_cons] at h
    obtain ⟨i1, i2⟩ := all_half m F (fun p hpm => hp p (by simp [hpm])) lf.tail (cancelL h) (by omega)
    refine ⟨fun p hpm => ?_, ?_⟩
    · rcases List.mem_cons.1 hpm with rfl | hpm
      · exact .inr rfl
      · exact i1 p hpm
    · rw [List.countP_cons_of_pos (by simpa using hn'), i2]
theorem prod_half {n : Nat} : ∀ (F : List (List Int)), (∀ p ∈ F, p = idl n ∨ p = halfl n) → prod F = Dp n (F.countP (fun p => decide (p ≠ idl n)))
  | [], _ => rfl
  | f :: F, h => by
    rw [prod_cons, prod_half F fun p hp => h p (by simp [hp])]
    by_cases hf : f = idl n
    · rw [hf, wd_idl, List.countP_cons_of_neg (by simp)]; rfl
    · rw [List.countP_cons_of_pos (by simpa using hf)]
      rcases h f (by simp) with e | e
      · exact absurd e hf
      · rw [e]; rfl
/-- Normal forms are unique: a power of the half twist, then left-weighted factors of which the first is none. -/
def NFok (n : Nat) (F : List (List Int)) : Prop := (∀ p ∈ F, Pm n p ∧ p ≠ idl n) ∧ LW F ∧ ∀ p G, F = p :: G → p ≠ halfl n
theorem nf_uniq {n : Nat} {F G : List (List Int)} {a b : Nat} (hF : NFok n F) (hG : NFok n G) (h : Eqv (Dp n a ++ prod F) (Dp n b ++ prod G)) (hn : 1 < n ∨ (a = 0 ∧ b = 0)) : a = b ∧ F = G := by
  have key : ∀ (c : Nat) (F G : List (List Int)), NFok n F → NFok n G → Eqv (Dp n (c + 1) ++ prod F) (prod G) → 1 < n → False := by
    intro c F G hF hG h hn
    have h0 : dB 0 (halfl n) = true := half_dB (by omega)
    have hDv : Dv (D n) (prod G) := ⟨Dp n c ++ prod F, by rw [← List.append_assoc]; exact h⟩
    cases G with
    | nil =>
      obtain ⟨x, hx⟩ := hDv
      have h1 := dv_nil hx
      rw [List.append_eq_nil_iff] at h1
      have h3 := wd_empty (halfl_Pm n) h1.1
      rw [h3, idl_noD n 0] at h0
      cases h0
    | cons g G =>
      have pg := (hG.1 g (by simp)).1
      have d1 : Dv (D n) (wd g) := head G g (D n) (fun p hp => (hG.1 p hp).1) hG.2.1 (wd_redB _) hDv
      exact hG.2.2 g G rfl (wd_inj pg (halfl_Pm n) (dv_both (red_dv (wd_half pg)) d1))
  rcases Nat.lt_trichotomy a b with hab | hab | hab
  · obtain ⟨c, rfl⟩ : ∃ c, b = a + (c + 1) := ⟨b - a - 1, by omega⟩
    rw [Dp_add, List.append_assoc] at h
    exact (key c G F hG hF (cancelL h).symm (by omega)).elim
  · subst hab
    exact ⟨rfl, uniq F G hF.1 hG.1 hF.2.1 hG.2.1 (cancelL h)⟩
  · obtain ⟨c, rfl⟩ : ∃ c, a = b + (c + 1) := ⟨a - b - 1, by omega⟩
    rw [Dp_add, List.append_assoc] at h
    exact (key c F G hF hG (cancelL h) (by omega)).elim
/-- One letter goes from a factor to the one before it. -/
theorem move {n k : Nat} {p q : List Int} (hp : Pm n p) (hq : Pm n q) (hk : dB k q = true) (hf : finB k p = false) : Pm n (bh k p) ∧ Pm n (sw k q) ∧ Eqv (wd (bh k p) ++ wd (sw k q)) (wd p ++ wd q) := by
  have hkn : k + 1 < n := by have := dB_lt hk; rwa [hq.len] at this
  refine ⟨hp.bh hkn, hq.sw k, ?_⟩
  have h1 := (wd_behind hp hkn (fin_ord hp hf)).post (wd (sw k q))
  have h2 := (wd_start hk).symm.pre (wd p)
  rw [List.append_assoc] at h1
  exact h1.trans h2

end Go.Proofs.YtnjgmhdmjaijgaaGreat.Br
