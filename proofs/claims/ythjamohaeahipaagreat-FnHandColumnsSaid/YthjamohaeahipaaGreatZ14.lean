/- Steps of the proof, joined from several texts: BA BB. -/
import Derived.Test.YthjamohaeahipaaGreatZ1

/- Positive braids, plain: words of letters up to the braid relations; two words that begin with different letters have a common remainder. -/
namespace Go.Proofs.YthjamohaeahipaaGreat.Br

/-- One use of a relation. -/
inductive St : List Nat → List Nat → Prop
  | far (a b : List Nat) {j k : Nat} (h : j + 2 ≤ k ∨ k + 2 ≤ j) : St (a ++ j :: k :: b) (a ++ k :: j :: b)
  | near (a b : List Nat) {j k : Nat} (h : j + 1 = k ∨ k + 1 = j) : St (a ++ j :: k :: j :: b) (a ++ k :: j :: k :: b)
inductive Ch : Nat → List Nat → List Nat → Prop
  | nil (a : List Nat) : Ch 0 a a
  | cons {n : Nat} {a b c : List Nat} (h : St a b) (t : Ch n b c) : Ch (n + 1) a c
/-- The same positive braid. -/
def Eqv (a b : List Nat) : Prop := ∃ n, Ch n a b
theorem St.symm {a b : List Nat} (h : St a b) : St b a := by
  cases h with
  | far a b h => exact .far a b h.symm
  | near a b h => exact .near a b h.symm
theorem St.len {a b : List Nat} (h : St a b) : a.length = b.length := by cases h <;> simp
theorem St.pre (x : List Nat) {a b : List Nat} (h : St a b) : St (x ++ a) (x ++ b) := by
  cases h with
  | far a b h => rw [← List.append_assoc, ← List.append_assoc]; exact .far (x ++ a) b h
  | near a b h => rw [← List.append_assoc, ← List.append_assoc]; exact .near (x ++ a) b h
theorem St.post (x : List Nat) {a b : List Nat} (h : St a b) : St (a ++ x) (b ++ x) := by
  cases h with
  | far a b h => simpa using St.far a (b ++ x) h
  | near a b h => simpa using St.near a (b ++ x) h
theorem St.rev {a b : List Nat} (h : St a b) : St a.reverse b.reverse := by
  cases h with
  | @far a b j k h => simpa using St.far b.reverse a.reverse (j := k) (k := j) h.symm
  | @near a b j k h => simpa using St.near b.reverse a.reverse (j := j) (k := k) h
theorem Ch.trans {n m : Nat} {a b c : List Nat} (h : Ch n a b) (t : Ch m b c) : Ch (n + m) a c := by
  induction h with
  | nil a => simpa using t
  | cons s _ ih => rw [Nat.add_right_comm]; exact .cons s (ih t)
theorem Ch.len {n : Nat} {a b : List Nat} (h : Ch n a b) : a.length = b.length := by
  induction h with
  | nil a => rfl
  | cons s _ ih => rw [s.len, ih]
theorem Eqv.refl (a : List Nat) : Eqv a a := ⟨0, .nil a⟩
theorem Eqv.of {a b : List Nat} (h : St a b) : Eqv a b := ⟨1, .cons h (.nil b)⟩
theorem Eqv.of_eq {a b : List Nat} (h : a = b) : Eqv a b := h ▸ .refl a
theorem Eqv.trans {a b c : List Nat} (h : Eqv a b) (t : Eqv b c) : Eqv a c := by
  obtain ⟨n, h⟩ := h
  obtain ⟨m, t⟩ := t
  exact ⟨_, h.trans t⟩
theorem Eqv.symm {a b : List Nat} (h : Eqv a b) : Eqv b a := by
  obtain ⟨n, h⟩ := h
  induction h with
  | nil a => exact .refl a
  | cons s _ ih => exact ih.trans (.of s.symm)
theorem Eqv.len {a b : List Nat} (h : Eqv a b) : a.length = b.length := by
  obtain ⟨n, h⟩ := h
  exact h.len
theorem Eqv.map (f : List Nat → List Nat) (hf : ∀ {a b}, St a b → St (f a) (f b)) {a b : List Nat} (h : Eqv a b) : Eqv (f a) (f b) := by
  obtain ⟨n, h⟩ := h
  induction h with
  | nil a => exact .refl _
  | cons s _ ih => exact (Eqv.of (hf s)).trans ih
theorem Eqv.pre (x : List Nat) {a b : List Nat} (h : Eqv a b) : Eqv (x ++ a) (x ++ b) := h.map (x ++ ·) fun s => s.pre x
theorem Eqv.post (x : List Nat) {a b : List Nat} (h : Eqv a b) : Eqv (a ++ x) (b ++ x) := h.map (· ++ x) fun s => s.post x
theorem Eqv.rev {a b : List Nat} (h : Eqv a b) : Eqv a.reverse b.reverse := h.map List.reverse fun s => s.rev
theorem Eqv.app {a b c d : List Nat} (h : Eqv a b) (t : Eqv c d) : Eqv (a ++ c) (b ++ d) := (h.post c).trans (t.pre b)
theorem Eqv.cons (j : Nat) {a b : List Nat} (h : Eqv a b) : Eqv (j :: a) (j :: b) := h.pre [j]
def adj (j k : Nat) : Prop := j + 1 = k ∨ k + 1 = j
def apart (j k : Nat) : Prop := j + 2 ≤ k ∨ k + 2 ≤ j
instance (j k : Nat) : Decidable (adj j k) := inferInstanceAs (Decidable (_ ∨ _))
theorem three (j k : Nat) : j = k ∨ adj j k ∨ apart j k := by unfold adj apart; omega
theorem adj.symm {j k : Nat} (h : adj j k) : adj k j := Or.symm h
theorem apart.symm {j k : Nat} (h : apart j k) : apart k j := Or.symm h
/-- Letters that do not touch change places. -/
theorem fr (x b : List Nat) {j k : Nat} (h : apart j k) : Eqv (x ++ j :: k :: b) (x ++ k :: j :: b) := .of (.far x b h)
theorem nr (x b : List Nat) {j k : Nat} (h : adj j k) : Eqv (x ++ j :: k :: j :: b) (x ++ k :: j :: k :: b) := .of (.near x b h)
/-- What k lacks behind j. -/
def comp (j k : Nat) : List Nat := if j = k then [] else if adj j k then [k, j] else [k]
theorem comp_self (j : Nat) : comp j j = [] := by rw [comp, if_pos rfl]
theorem comp_adj {j k : Nat} (h : adj j k) : comp j k = [k, j] := by
  rw [comp, if_neg (by unfold adj at h; omega), if_pos h]
theorem comp_apart {j k : Nat} (h : apart j k) : comp j k = [k] := by
  rw [comp, if_neg (by unfold apart at h; omega), if_neg (by unfold apart at h; unfold adj; omega)]
theorem comp_join (j k : Nat) : Eqv (j :: comp j k) (k :: comp k j) := by
  rcases three j k with rfl | h | h
  · exact .refl _
  · rw [comp_adj h, comp_adj h.symm]; exact nr [] [] h
  · rw [comp_apart h, comp_apart h.symm]; exact fr [] [] h
theorem St.head {j k : Nat} {A B : List Nat} (h : St (j :: A) (k :: B)) : ∃ C, Eqv A (comp j k ++ C) ∧ Eqv B (comp k j ++ C) := by
  generalize hx : j :: A = x at h
  generalize hy : k :: B = y at h
  cases h with
  | @far a b p q h =>
    cases a with
    | nil =>
      rw [List.nil_append] at hx hy
      injection hx with h1 h2
      injection hy with h3 h4
      subst h1 h2 h3 h4
      refine ⟨b, ?_, ?_⟩
      · rw [comp_apart h]; exact .refl _
      · rw [comp_apart (apart.symm h)]; exact .refl _
    | cons z a =>
      rw [List.cons_append] at hx hy
      injection hx with h1 h2
      injection hy with h3 h4
      subst h1 h2 h3 h4
      rw [comp_self]
      exact ⟨_, .refl _, fr _ _ (apart.symm h)⟩
  | @near a b p q h =>
    cases a with
    | nil =>
      rw [List.nil_append] at hx hy
      injection hx with h1 h2
      injection hy with h3 h4
      subst h1 h2 h3 h4
      refine ⟨b, ?_, ?_⟩
      · rw [comp_adj h]; exact .refl _
      · rw [comp_adj (adj.symm h)]; exact .refl _
    | cons z a =>
      rw [List.cons_append] at hx hy
      injection hx with h1 h2
      injection hy with h3 h4
      subst h1 h2 h3 h4
      rw [comp_self]
      exact ⟨_, .refl _, nr _ _ (adj.symm h)⟩
/-- Two words that begin with letters have a common remainder. -/
def Key (N : Nat) : Prop := ∀ (A B : List Nat) (j k : Nat), A.length < N → Eqv (j :: A) (k :: B) → ∃ C, Eqv A (comp j k ++ C) ∧ Eqv B (comp k j ++ C)
theorem Key.cancel1 {N : Nat} (H : Key N) {A B : List Nat} {j : Nat} (hl : A.length < N) (h : Eqv (j :: A) (j :: B)) : Eqv A B := by
  obtain ⟨C, h1, h2⟩ := H A B j j hl h
  rw [comp_self] at h1 h2
  exact h1.trans h2.symm
theorem Key.cancel {N : Nat} (H : Key N) {x A B : List Nat} (hl : (x ++ A).length ≤ N) (h : Eqv (x ++ A) (x ++ B)) : Eqv A B := by
  induction x with
  | nil => exact h
  | cons j x ih =>
    rw [List.cons_append, List.length_cons] at hl
    exact ih (by omega) (H.cancel1 (by omega) h)
theorem Key.adj {N : Nat} (H : Key N) {A B : List Nat} {j k : Nat} (hr : adj j k) (hl : A.length < N) (h : Eqv (j :: A) (k :: B)) : ∃ C, Eqv A (k :: j :: C) ∧ Eqv B (j :: k :: C) := by
  obtain ⟨C, h1, h2⟩ := H A B j k hl h
  rw [comp_adj hr] at h1
  rw [comp_adj hr.symm] at h2
  exact ⟨C, h1, h2⟩
theorem Key.apart {N : Nat} (H : Key N) {A B : List Nat} {j k : Nat} (hr : apart j k) (hl : A.length < N) (h : Eqv (j :: A) (k :: B)) : ∃ C, Eqv A (k :: C) ∧ Eqv B (j :: C) := by
  obtain ⟨C, h1, h2⟩ := H A B j k hl h
  rw [comp_apart hr] at h1
  rw [comp_apart hr.symm] at h2
  exact ⟨C, h1, h2⟩
/-- Three letters that are all apart, or of which only the outer two are near. -/
theorem cube_1 {N i j k : Nat} (H : Key N) (h1 : apart i j) (h2 : apart i k) (h3 : apart j k) {E F : List Nat} (hl : (j :: E).length = N) (h : Eqv (j :: E) (k :: F)) : ∃ C, Eqv (i :: E) (k :: C) ∧ Eqv (i :: F) (j :: C) := by
  obtain ⟨G, g1, g2⟩ := H.apart h3 (by simp at hl; omega) h
  exact ⟨i :: G, (g1.cons i).trans (fr [] G h2), (g2.cons i).trans (fr [] G h1)⟩
theorem cube_2 {N i j k : Nat} (H : Key N) (h1 : apart i j) (h2 : apart i k) (h3 : adj j k) {E F : List Nat} (hl : (j :: E).length = N) (h : Eqv (j :: E) (k :: F)) : ∃ C, Eqv (i :: E) (k :: j :: C) ∧ Eqv (i :: F) (j :: k :: C) := by
  obtain ⟨G, g1, g2⟩ := H.adj h3 (by simp at hl; omega) h
  exact ⟨i :: G, ((g1.cons i).trans (fr [] _ h2)).trans (fr [k] G h1), ((g2.cons i).trans (fr [] _ h1)).trans (fr [j] G h2)⟩
theorem cube_3 {N i j k : Nat} (H : Key N) (h1 : adj i j) (h2 : apart i k) (h3 : apart j k) {E F : List Nat} (hl : (j :: i :: E).length = N) (h : Eqv (j :: i :: E) (k :: F)) : ∃ C, Eqv (i :: j :: E) (k :: C) ∧ Eqv (i :: F) (j :: C) := by
  simp only [List.length_cons] at hl
  obtain ⟨G, g1, g2⟩ := H.apart h3 (by simp; omega) h
  obtain ⟨I, i1, i2⟩ := H.apart h2 (by omega) g1
  refine ⟨i :: j :: I, ?_, ?_⟩
  · exact (((i1.cons j).cons i).trans (fr [i] I h3)).trans (fr [] _ h2)
  · exact (((g2.trans (i2.cons j)).cons i)).trans (nr [] I h1)
theorem cube_4 {N i j k : Nat} (H : Key N) (h1 : adj i j) (h2 : adj i k) (h3 : apart j k) {E F : List Nat} (hl : (j :: i :: E).length = N) (h : Eqv (j :: i :: E) (k :: i :: F)) : ∃ C, Eqv (i :: j :: E) (k :: C) ∧ Eqv (i :: k :: F) (j :: C) := by
  simp only [List.length_cons] at hl
  have hlF : E.length = F.length := by have := h.len; simpa using this
  obtain ⟨G, g1, g2⟩ := H.apart h3 (by simp; omega) h
  have hlG := g1.len
  obtain ⟨P, p1, p2⟩ := H.adj h2 (by omega) g1
  obtain ⟨Q, q1, q2⟩ := H.adj h1 (by omega) g2
  have hlQ := q2.len
  simp only [List.length_cons] at hlG hlQ
  have e1 := H.cancel1 (by simp; have := p2.len; simp at this; omega) (p2.symm.trans q2)
  obtain ⟨I, i1, i2⟩ := H.apart h3.symm (by have := p2.len; simp at this; omega) e1
  refine ⟨i :: k :: j :: i :: I, ?_, ?_⟩
  · refine (((p1.trans ((i1.cons i).cons k)).cons j).cons i).trans ?_
    refine (fr [i] (i :: j :: I) h3).trans ?_
    refine (nr [i, k] I h1.symm).trans ?_
    refine (nr [] (j :: i :: I) h2).trans ?_
    exact .refl _
  · refine (((q1.trans ((i2.cons i).cons j)).cons k).cons i).trans ?_
    refine (fr [i] (i :: k :: I) h3.symm).trans ?_
    refine (nr [i, j] I h2.symm).trans ?_
    refine (nr [] (k :: i :: I) h1).trans ?_
    exact fr [j, i] (i :: I) h3
theorem cube_5 {N i j k : Nat} (H : Key N) (h1 : adj i j) (h2 : apart i k) (h3 : adj j k) {E F : List Nat} (hl : (j :: i :: E).length = N) (h : Eqv (j :: i :: E) (k :: F)) : ∃ C, Eqv (i :: j :: E) (k :: j :: C) ∧ Eqv (i :: F) (j :: k :: C) := by
  simp only [List.length_cons] at hl
  obtain ⟨G, g1, g2⟩ := H.adj h3 (by simp; omega) h
  have hlG := g1.len
  simp only [List.length_cons] at hlG
  obtain ⟨P, p1, p2⟩ := H.apart h2 (by omega) g1
  have hlP := p2.len
  simp only [List.length_cons] at hlP
  obtain ⟨I, i1, i2⟩ := H.adj h1.symm (by omega) p2
  refine ⟨i :: j :: k :: I, ?_, ?_⟩
  · refine (((p1.trans (i2.cons k)).cons j).cons i).trans ?_
    refine (nr [i] (i :: I) h3).trans ?_
    refine (fr [] (j :: k :: i :: I) h2).trans ?_
    refine (fr [k, i, j] I h2.symm).trans ?_
    exact nr [k] (k :: I) h1
  · refine ((g2.trans ((i1.cons k).cons j)).cons i).trans ?_
    refine (fr [i, j] (j :: I) h2.symm).trans ?_
    refine (nr [] (k :: j :: I) h1).trans ?_
    refine (nr [j, i] I h3).trans ?_
    exact fr [j] (j :: k :: I) h2
theorem cube {N i j k : Nat} (H : Key N) {E F : List Nat} (hl : (comp i j ++ E).length = N) (h : Eqv (comp i j ++ E) (comp i k ++ F)) : ∃ C, Eqv (comp j i ++ E) (comp j k ++ C) ∧ Eqv (comp k i ++ F) (comp k j ++ C) := by
  have hl2 : (comp i k ++ F).length = N := by rw [← h.len, hl]
  by_cases hij : i = j
  · subst hij
    rw [comp_self, List.nil_append] at h
    rw [comp_self, List.nil_append]
    exact ⟨F, h, .refl _⟩
  by_cases hik : i = k
  · subst hik
    rw [comp_self, List.nil_append] at h
    rw [comp_self, List.nil_append]
    exact ⟨E, .refl _, h.symm⟩
  by_cases hjk : j = k
  · subst hjk
    rw [comp_self]
    exact ⟨_, .refl _, (H.cancel (by omega) h.symm).pre _⟩
  have sw : ∀ {P Q : List Nat → Prop}, (∃ C, P C ∧ Q C) → ∃ C, Q C ∧ P C := fun ⟨C, p, q⟩ => ⟨C, q, p⟩
  rcases three i j with r1 | r1 | r1
  · exact absurd r1 hij
  · rw [comp_adj r1] at h hl
    rw [comp_adj r1.symm]
    rcases three i k with r2 | r2 | r2
    · exact absurd r2 hik
    · rw [comp_adj r2] at h hl2
      rw [comp_adj r2.symm]
      have r3 : apart j k := by unfold adj at r1 r2; unfold apart; omega
      rw [comp_apart r3, comp_apart r3.symm]
      exact cube_4 H r1 r2 r3 hl h
    · rw [comp_apart r2] at h hl2
      rw [comp_apart r2.symm]
      rcases three j k with r3 | r3 | r3
      · exact absurd r3 hjk
      · rw [comp_adj r3, comp_adj r3.symm]
        exact cube_5 H r1 r2 r3 hl h
      · rw [comp_apart r3, comp_apart r3.symm]
        exact cube_3 H r1 r2 r3 hl h
  · rw [comp_apart r1] at h hl
    rw [comp_apart r1.symm]
    rcases three i k with r2 | r2 | r2
    · exact absurd r2 hik
    · rw [comp_adj r2] at h hl2
      rw [comp_adj r2.symm]
      rcases three j k with r3 | r3 | r3
      · exact absurd r3 hjk
      · rw [comp_adj r3, comp_adj r3.symm]
        exact sw (cube_5 H r2 r1 r3.symm hl2 h.symm)
      · rw [comp_apart r3, comp_apart r3.symm]
        exact sw (cube_3 H r2 r1 r3.symm hl2 h.symm)
    · rw [comp_apart r2] at h hl2
      rw [comp_apart r2.symm]
      rcases three j k with r3 | r3 | r3
      · exact absurd r3 hjk
      · rw [comp_adj r3, comp_adj r3.symm]
        exact cube_2 H r1 r2 r3 hl h
      · rw [comp_apart r3, comp_apart r3.symm]
        exact cube_1 H r1 r2 r3 hl h
theorem key (N : Nat) : Key N := by
  induction N with
  | zero => intro A B j k h; omega
  | succ N H =>
    have main : ∀ (n : Nat) (x y A B : List Nat) (j k : Nat), A.length < N + 1 → Ch n x y → x = j :: A → y = k :: B → ∃ C, Eqv A (comp j k ++ C) ∧ Eqv B (comp k j ++ C) := by
      intro n
      induction n with
      | zero =>
        intro x y A B j k hA h hx hy
        cases h
        rw [hx] at hy
        injection hy with h1 h2
        subst h1 h2
        rw [comp_self]
        exact ⟨A, .refl _, .refl _⟩
      | succ n ih =>
        intro x y A B j k hA h hx hy
        cases h with
        | @cons _ _ m _ s t =>
          subst hx hy
          cases m with
          | nil => have := s.len; simp at this
          | cons i D =>
            have hD : A.length = D.length := by have := s.len; simpa using this
            obtain ⟨E, e1, e2⟩ := s.head
            obtain ⟨F, f1, f2⟩ := ih _ _ D B i k (by omega) t rfl rfl
            by_cases hN : D.length = N
            · obtain ⟨C, c1, c2⟩ := cube H (by rw [← e2.len, hN]) (e2.symm.trans f1)
              exact ⟨C, e1.trans c1, f2.trans c2⟩
            · exact H A B j k (by omega) ⟨_, .cons s t⟩
    intro A B j k hA ⟨n, h⟩
    exact main n _ _ A B j k hA h rfl rfl
theorem keyAll {A B : List Nat} {j k : Nat} (h : Eqv (j :: A) (k :: B)) : ∃ C, Eqv A (comp j k ++ C) ∧ Eqv B (comp k j ++ C) := key (A.length + 1) A B j k (by omega) h
theorem cancelL {x A B : List Nat} (h : Eqv (x ++ A) (x ++ B)) : Eqv A B := (key (x ++ A).length).cancel (Nat.le_refl _) h
theorem cancelR {x A B : List Nat} (h : Eqv (A ++ x) (B ++ x)) : Eqv A B := by
  have h1 := h.rev
  rw [List.reverse_append, List.reverse_append] at h1
  have h2 := (cancelL h1).rev
  rwa [List.reverse_reverse, List.reverse_reverse] at h2
/-- Divisors from the left. -/
def Dv (u w : List Nat) : Prop := ∃ x, Eqv (u ++ x) w
theorem Dv.refl (u : List Nat) : Dv u u := ⟨[], by rw [List.append_nil]; exact .refl _⟩
theorem Dv.app (u x : List Nat) : Dv u (u ++ x) := ⟨x, .refl _⟩
theorem Dv.trans {u v w : List Nat} (h : Dv u v) (t : Dv v w) : Dv u w := by
  obtain ⟨x, h⟩ := h
  obtain ⟨y, t⟩ := t
  exact ⟨x ++ y, by rw [← List.append_assoc]; exact (h.post y).trans t⟩
theorem Dv.eqv {u v w : List Nat} (h : Dv u v) (t : Eqv v w) : Dv u w := by
  obtain ⟨x, h⟩ := h
  exact ⟨x, h.trans t⟩
theorem Dv.pre {u v : List Nat} (x : List Nat) (h : Dv u v) : Dv (x ++ u) (x ++ v) := by
  obtain ⟨y, h⟩ := h
  exact ⟨y, by rw [List.append_assoc]; exact h.pre x⟩
theorem Dv.cancel {x u v : List Nat} (h : Dv (x ++ u) (x ++ v)) : Dv u v := by
  obtain ⟨y, h⟩ := h
  rw [List.append_assoc] at h
  exact ⟨y, cancelL h⟩
/-- Two words with a common multiple have a least one. -/
theorem lcm (N : Nat) : ∀ (u y m : List Nat), m.length ≤ N → Dv u m → Dv y m → ∃ v z, Eqv (u ++ v) (y ++ z) ∧ ∀ m', Dv u m' → Dv y m' → Dv (u ++ v) m' := by
  induction N with
  | zero =>
    intro u y m hm ⟨x, hx⟩ ⟨x', hx'⟩
    have h1 := hx.len
    have h2 := hx'.len
    simp only [List.length_append] at h1 h2
    obtain rfl : u = [] := List.eq_nil_of_length_eq_zero (by omega)
    obtain rfl : y = [] := List.eq_nil_of_length_eq_zero (by omega)
    exact ⟨[], [], .refl _, fun m' h _ => h⟩
  | succ N ih =>
    intro u y m hm hu hy
    cases u with
    | nil => exact ⟨y, [], by simpa using Eqv.refl y, fun m' _ h => h⟩
    | cons j u =>
      cases y with
      | nil => exact ⟨[], j :: u, by simpa using Eqv.refl (j :: u), fun m' h _ => by simpa using h⟩
      | cons k y =>
        obtain ⟨x, hx⟩ := hu
        obtain ⟨x', hx'⟩ := hy
        have hlm := hx.len
        rw [List.cons_append] at hx hx' hlm
        rw [List.length_cons] at hlm
        obtain ⟨C, c1, c2⟩ := keyAll (hx.trans hx'.symm)
        have hl1 := c1.len
        have hl2 := c2.len
        have hl3 : (u ++ x).length = (y ++ x').length := by have := (hx.trans hx'.symm).len; simpa using this
        obtain ⟨v1, z1, e1, min1⟩ := ih u (comp j k) (u ++ x) (by omega) (.app _ _) ⟨C, c1.symm⟩
        obtain ⟨v2, z2, e2, min2⟩ := ih y (comp k j) (y ++ x') (by omega) (.app _ _) ⟨C, c2.symm⟩
        have d1 : ∀ {a C : List Nat}, Eqv (u ++ a) (comp j k ++ C) → Dv z1 C := fun {a C} h => Dv.cancel (x := comp j k) (by
          obtain ⟨q, hq⟩ := min1 (u ++ a) (.app _ _) ⟨C, h.symm⟩
          exact ⟨q, ((e1.post q).symm.trans hq).trans h⟩)
        have d2 : ∀ {a C : List Nat}, Eqv (y ++ a) (comp k j ++ C) → Dv z2 C := fun {a C} h => Dv.cancel (x := comp k j) (by
          obtain ⟨q, hq⟩ := min2 (y ++ a) (.app _ _) ⟨C, h.symm⟩
          exact ⟨q, ((e2.post q).symm.trans hq).trans h⟩)
        obtain ⟨v3, v4, e3, min3⟩ := ih z1 z2 C (by simp only [List.length_append] at hl1 hlm; omega) (d1 c1) (d2 c2)
        have f1 : Eqv (j :: u ++ (v1 ++ v3)) (j :: comp j k ++ (z1 ++ v3)) := by
          have := (e1.post v3).cons j
          simpa [List.append_assoc] using this
        have f2 : Eqv (k :: y ++ (v2 ++ v4)) (k :: comp k j ++ (z2 ++ v4)) := by
          have := (e2.post v4).cons k
          simpa [List.append_assoc] using this
        have f3 : Eqv (j :: comp j k ++ (z1 ++ v3)) (k :: comp k j ++ (z2 ++ v4)) := (comp_join j k).app e3
        refine ⟨v1 ++ v3, v2 ++ v4, (f1.trans f3).trans f2.symm, ?_⟩
        intro m' ⟨a, ha⟩ ⟨b, hb⟩
        rw [List.cons_append] at ha hb
        obtain ⟨C', c1', c2'⟩ := keyAll (ha.trans hb.symm)
        obtain ⟨q, hq⟩ := min3 C' (d1 c1') (d2 c2')
        refine ⟨q, (f1.post q).trans (Eqv.trans ?_ ha)⟩
        have := ((hq.pre (comp j k)).trans c1'.symm).cons j
        simpa [List.append_assoc] using this

end Go.Proofs.YthjamohaeahipaaGreat.Br

/- Permutations and positive braids, plain: every permutation has a word, any two of its reduced words are the same braid, all of them divide the half twist. -/
namespace Go.Proofs.YthjamohaeahipaaGreat.Br

section sw
variable {α β : Type}
/-- Two neighbours change places. -/
def sw : Nat → List α → List α
  | 0, x :: y :: r => y :: x :: r
  | 0, l => l
  | j + 1, x :: r => x :: sw j r
  | _ + 1, [] => []
theorem sw_at (x y : α) (b : List α) : ∀ a : List α, sw a.length (a ++ x :: y :: b) = a ++ y :: x :: b
  | [] => rfl
  | z :: a => by
    show z :: sw a.length (a ++ x :: y :: b) = z :: (a ++ y :: x :: b)
    rw [sw_at x y b a]
theorem sw_at' {a : List α} {j : Nat} (h : a.length = j) (x y : α) (b : List α) : sw j (a ++ x :: y :: b) = a ++ y :: x :: b := h ▸ sw_at x y b a
theorem sw_at1 {a : List α} {j : Nat} (h : a.length = j) (x y z : α) (b : List α) : sw (j + 1) (a ++ x :: y :: z :: b) = a ++ x :: z :: y :: b := by
  have := sw_at' (a := a ++ [x]) (j := j + 1) (by simp [h]) y z b
  simpa using this
theorem sw_perm : ∀ (j : Nat) (l : List α), List.Perm (sw j l) l
  | 0, [] => .refl _
  | 0, [_] => .refl _
  | 0, x :: y :: r => List.Perm.swap x y r
  | j + 1, x :: r => (sw_perm j r).cons x
  | _ + 1, [] => .refl _
theorem sw_length (j : Nat) (l : List α) : (sw j l).length = l.length := (sw_perm j l).length_eq
theorem sw_map (f : α → β) : ∀ (j : Nat) (l : List α), sw j (l.map f) = (sw j l).map f
  | 0, [] => rfl
  | 0, [_] => rfl
  | 0, _ :: _ :: _ => rfl
  | j + 1, x :: r => by
    show f x :: sw j (r.map f) = f x :: (sw j r).map f
    rw [sw_map f j r]
  | _ + 1, [] => rfl
theorem sw_sw : ∀ (j : Nat) (l : List α), sw j (sw j l) = l
  | 0, [] => rfl
  | 0, [_] => rfl
  | 0, _ :: _ :: _ => rfl
  | j + 1, x :: r => by
    show x :: sw j (sw j r) = x :: r
    rw [sw_sw j r]
  | _ + 1, [] => rfl
theorem bi {j : Nat} {l : List α} (h : j + 1 < l.length) : ∃ a x y b, l = a ++ x :: y :: b ∧ a.length = j := by
  refine ⟨l.take j, l[j], l[j + 1], l.drop (j + 2), ?_, by simp; omega⟩
  rw [← List.drop_eq_getElem_cons (show j + 1 < l.length by omega), ← List.drop_eq_getElem_cons (show j < l.length by omega), List.take_append_drop]
theorem tri {j : Nat} {l : List α} (h : j + 2 < l.length) : ∃ a x y z b, l = a ++ x :: y :: z :: b ∧ a.length = j := by
  refine ⟨l.take j, l[j], l[j + 1], l[j + 2], l.drop (j + 3), ?_, by simp; omega⟩
  rw [← List.drop_eq_getElem_cons (show j + 2 < l.length by omega), ← List.drop_eq_getElem_cons (show j + 1 < l.length by omega), ← List.drop_eq_getElem_cons (show j < l.length by omega), List.take_append_drop]
theorem sw_far : ∀ (j k : Nat) (l : List α), j + 2 ≤ k → sw j (sw k l) = sw k (sw j l)
  | _, 0, _, h => by omega
  | j, k + 1, [], h => by cases j <;> rfl
  | 0, k + 1, [x], h => by
    obtain ⟨k, rfl⟩ : ∃ m, k = m + 1 := ⟨k - 1, by omega⟩
    rfl
  | 0, k + 1, x :: y :: r, h => by
    obtain ⟨k, rfl⟩ : ∃ m, k = m + 1 := ⟨k - 1, by omega⟩
    rfl
  | j + 1, k + 1, x :: r, h => by
    show x :: sw j (sw k r) = x :: sw k (sw j r)
    rw [sw_far j k r (by omega)]
def run (w : List Nat) (l : List α) : List α := w.foldl (fun l j => sw j l) l
theorem run_nil (l : List α) : run [] l = l := rfl
theorem run_cons (j : Nat) (w : List Nat) (l : List α) : run (j :: w) l = run w (sw j l) := rfl
theorem run_app (u v : List Nat) (l : List α) : run (u ++ v) l = run v (run u l) := by rw [run, List.foldl_append]; rfl
theorem run_map (f : α → β) (w : List Nat) : ∀ l : List α, run w (l.map f) = (run w l).map f := by
  induction w with
  | nil => intro l; rfl
  | cons j w ih => intro l; rw [run_cons, run_cons, sw_map, ih]
theorem run_perm (w : List Nat) : ∀ l : List α, List.Perm (run w l) l := by
  induction w with
  | nil => intro l; exact .refl _
  | cons j w ih => intro l; exact (ih _).trans (sw_perm j l)
theorem run_length (w : List Nat) (l : List α) : (run w l).length = l.length := (run_perm w l).length_eq
theorem run_inj {w : List Nat} : ∀ {l m : List α}, run w l = run w m → l = m := by
  induction w with
  | nil => intro l m h; exact h
  | cons j w ih =>
    intro l m h
    have h1 := ih (l := sw j l) (m := sw j m) h
    rw [← sw_sw j l, h1, sw_sw]
end sw

/-- A descent. -/
def dB : Nat → List Int → Bool
  | 0, x :: y :: _ => decide (y < x)
  | 0, _ => false
  | j + 1, _ :: r => dB j r
  | _ + 1, [] => false
theorem dB_at (x y : Int) (b : List Int) : ∀ a : List Int, dB a.length (a ++ x :: y :: b) = decide (y < x)
  | [] => rfl
  | z :: a => by
    show dB a.length (a ++ x :: y :: b) = _
    rw [dB_at x y b a]
theorem dB_at' {a : List Int} {j : Nat} (h : a.length = j) (x y : Int) (b : List Int) : dB j (a ++ x :: y :: b) = decide (y < x) := h ▸ dB_at x y b a
theorem dB_at1 {a : List Int} {j : Nat} (h : a.length = j) (x y z : Int) (b : List Int) : dB (j + 1) (a ++ x :: y :: z :: b) = decide (z < y) := by
  have := dB_at' (a := a ++ [x]) (j := j + 1) (by simp [h]) y z b
  simpa using this
theorem dB_lt : ∀ {j : Nat} {l : List Int}, dB j l = true → j + 1 < l.length
  | 0, [], h => by cases h
  | 0, [_], h => by cases h
  | 0, _ :: _ :: _, _ => by simp
  | j + 1, _ :: r, h => by have := dB_lt (j := j) (l := r) h; simpa using this
  | _ + 1, [], h => by cases h
theorem dB_far : ∀ (j k : Nat) (l : List Int), j + 2 ≤ k → dB j (sw k l) = dB j l ∧ dB k (sw j l) = dB k l
  | _, 0, _, h => by omega
  | j, k + 1, [], h => by cases j <;> exact ⟨rfl, rfl⟩
  | 0, k + 1, [x], h => by
    obtain ⟨k, rfl⟩ : ∃ m, k = m + 1 := ⟨k - 1, by omega⟩
    exact ⟨rfl, rfl⟩
  | 0, k + 1, x :: y :: r, h => by
    obtain ⟨k, rfl⟩ : ∃ m, k = m + 1 := ⟨k - 1, by omega⟩
    exact ⟨rfl, rfl⟩
  | j + 1, k + 1, x :: r, h => dB_far j k r (by omega)
theorem dB_apart {j k : Nat} (h : apart j k) (l : List Int) : dB j (sw k l) = dB j l := by
  rcases h with h | h
  · exact (dB_far j k l h).1
  · exact (dB_far k j l h).2
theorem sw_apart {α : Type} {j k : Nat} (h : apart j k) (l : List α) : sw j (sw k l) = sw k (sw j l) := by
  rcases h with h | h
  · exact sw_far j k l h
  · exact (sw_far k j l h).symm
/-- Each letter of a word takes a descent away. -/
def redB : List Nat → List Int → Bool
  | [], _ => true
  | j :: w, l => dB j l && redB w (sw j l)
theorem redB_cons {j : Nat} {w : List Nat} {l : List Int} : redB (j :: w) l = (dB j l && redB w (sw j l)) := rfl
theorem redB_app (v : List Nat) : ∀ (u : List Nat) (l : List Int), redB (u ++ v) l = (redB u l && redB v (run u l))
  | [], l => by simp [redB, run]
  | j :: u, l => by rw [List.cons_append, redB_cons, redB_cons, redB_app v u, run_cons, Bool.and_assoc]
theorem near_red (j : Nat) (w : List Nat) (l : List Int) : redB (j :: (j + 1) :: j :: w) l = redB ((j + 1) :: j :: (j + 1) :: w) l ∧ (redB (j :: (j + 1) :: j :: w) l = true → run (j :: (j + 1) :: j :: w) l = run ((j + 1) :: j :: (j + 1) :: w) l) := by
  by_cases h : j + 2 < l.length
  · obtain ⟨a, x, y, z, b, rfl, ha⟩ := tri h
    simp only [redB_cons, run_cons, sw_at' ha, sw_at1 ha, dB_at' ha, dB_at1 ha]
    refine ⟨?_, fun _ => trivial⟩
    cases decide (y < x) <;> cases decide (z < x) <;> cases decide (z < y) <;> rfl
  · have h1 : ∀ m : List Int, m.length = l.length → dB (j + 1) m = false := fun m hm => by
      cases hd : dB (j + 1) m
      · rfl
      · have := dB_lt hd; omega
    have e1 : redB (j :: (j + 1) :: j :: w) l = false := by rw [redB_cons, redB_cons, h1 _ (sw_length j l), Bool.false_and, Bool.and_false]
    have e2 : redB ((j + 1) :: j :: (j + 1) :: w) l = false := by rw [redB_cons, h1 _ rfl, Bool.false_and]
    exact ⟨by rw [e1, e2], fun h => by rw [e1] at h; cases h⟩
theorem far_red {j k : Nat} (h : apart j k) (w : List Nat) (l : List Int) : redB (j :: k :: w) l = redB (k :: j :: w) l ∧ run (j :: k :: w) l = run (k :: j :: w) l := by
  simp only [redB_cons, run_cons, dB_apart h, dB_apart h.symm, sw_apart h]
  refine ⟨?_, trivial⟩
  cases dB j l <;> cases dB k l <;> rfl
theorem St.red {a b : List Nat} (h : St a b) {l : List Int} (ha : redB a l = true) : redB b l = true ∧ run b l = run a l := by
  cases h with
  | @far u v j k h =>
    rw [redB_app, Bool.and_eq_true] at ha
    obtain ⟨h1, h2⟩ := far_red (j := j) (k := k) h v (run u l)
    rw [redB_app, run_app, run_app, ← h1, ← h2, Bool.and_eq_true]
    exact ⟨ha, rfl⟩
  | @near u v j k h =>
    rw [redB_app, Bool.and_eq_true] at ha
    rcases h with rfl | rfl
    · obtain ⟨h1, h2⟩ := near_red j v (run u l)
      rw [redB_app, run_app, run_app, ← h1, ← h2 ha.2, Bool.and_eq_true]
      exact ⟨ha, rfl⟩
    · obtain ⟨h1, h2⟩ := near_red k v (run u l)
      have h3 := h1.trans ha.2
      rw [redB_app, run_app, run_app, h1, h2 h3, Bool.and_eq_true]
      exact ⟨ha, rfl⟩
theorem Eqv.red {a b : List Nat} (h : Eqv a b) {l : List Int} (ha : redB a l = true) : redB b l = true ∧ run b l = run a l := by
  obtain ⟨n, h⟩ := h
  induction h with
  | nil a => exact ⟨ha, rfl⟩
  | cons s _ ih =>
    obtain ⟨h1, h2⟩ := s.red ha
    obtain ⟨h3, h4⟩ := ih h1
    exact ⟨h3, h4.trans h2⟩
def inv : List Int → Nat
  | [] => 0
  | x :: r => r.countP (fun y => decide (y < x)) + inv r
theorem inv_sw : ∀ {j : Nat} {l : List Int}, dB j l = true → inv (sw j l) + 1 = inv l
  | 0, [], h => by cases h
  | 0, [_], h => by cases h
  | 0, x :: y :: r, h => by
    have hxy : y < x := of_decide_eq_true h
    show inv (y :: x :: r) + 1 = inv (x :: y :: r)
    simp only [inv]
    rw [List.countP_cons_of_neg (by simpa using (show ¬ x < y by omega)), List.countP_cons_of_pos (by simpa using hxy)]
    omega
  | j + 1, x :: r, h => by
    have ih := inv_sw (j := j) (l := r) h
    show inv (x :: sw j r) + 1 = inv (x :: r)
    simp only [inv]
    rw [(sw_perm j r).countP_eq]
    omega
  | _ + 1, [], h => by cases h
def firstD : List Int → Option Nat
  | x :: y :: r => if y < x then some 0 else (firstD (y :: r)).map (· + 1)
  | _ => none
theorem firstD_dB : ∀ {l : List Int} {j : Nat}, firstD l = some j → dB j l = true
  | [], _, h => by cases h
  | [_], _, h => by cases h
  | x :: y :: r, j, h => by
    rw [firstD] at h
    split at h
    · rename_i hxy
      injection h with h
      subst h
      exact decide_eq_true hxy
    · obtain ⟨k, hk, rfl⟩ := Option.map_eq_some_iff.1 h
      exact firstD_dB (l := y :: r) hk
theorem firstD_none : ∀ {l : List Int}, firstD l = none → ∀ j, dB j l = false
  | [], _, j => by cases j <;> rfl
  | [_], _, j => by
    cases j with
    | zero => rfl
    | succ j => cases j <;> rfl
  | x :: y :: r, h, j => by
    rw [firstD] at h
    split at h
    · cases h
    · rename_i hxy
      cases j with
      | zero => exact decide_eq_false hxy
      | succ j => exact firstD_none (l := y :: r) (Option.map_eq_none_iff.1 h) j
/-- The word of a permutation. -/
def wd (l : List Int) : List Nat :=
  match _h : firstD l with
  | none => []
  | some j => j :: wd (sw j l)
termination_by inv l
decreasing_by have := inv_sw (firstD_dB _h); omega
theorem wd_none {l : List Int} (h : firstD l = none) : wd l = [] := by
  rw [wd]
  split
  · rfl
  · rename_i h2; rw [h] at h2; cases h2
theorem wd_some {l : List Int} {j : Nat} (h : firstD l = some j) : wd l = j :: wd (sw j l) := by
  rw [wd]
  split
  · rename_i h2; rw [h] at h2; cases h2
  · rename_i h2
    rw [h] at h2
    injection h2 with h2
    subst h2
    rfl
theorem wd_head (N : Nat) : ∀ l : List Int, inv l ≤ N → ∀ k, dB k l = true → Eqv (wd l) (k :: wd (sw k l)) := by
  induction N with
  | zero => intro l hl k hk; have := inv_sw hk; omega
  | succ N ih =>
    intro l hl k hk
    have hik := inv_sw hk
    cases hf : firstD l with
    | none => rw [firstD_none hf k] at hk; cases hk
    | some h =>
      have hh := firstD_dB hf
      have hih := inv_sw hh
      rw [wd_some hf]
      have near : ∀ j, dB j l = true → dB (j + 1) l = true → ∃ T, Eqv (wd (sw j l)) ((j + 1) :: j :: T) ∧ Eqv (wd (sw (j + 1) l)) (j :: (j + 1) :: T) := by
        intro j h1 h2
        have g1 := inv_sw h1
        have g2 := inv_sw h2
        obtain ⟨a, x, y, z, b, rfl, ha⟩ := tri (dB_lt h2)
        rw [dB_at' ha] at h1
        rw [dB_at1 ha] at h2
        have h1 := of_decide_eq_true h1
        have h2 := of_decide_eq_true h2
        rw [sw_at' ha] at g1 ⊢
        rw [sw_at1 ha] at g2 ⊢
        have p1 : dB (j + 1) (a ++ y :: x :: z :: b) = true := by rw [dB_at1 ha]; exact decide_eq_true (by omega)
        have p2 : dB j (a ++ y :: z :: x :: b) = true := by rw [dB_at' ha]; exact decide_eq_true (by omega)
        have p3 : dB j (a ++ x :: z :: y :: b) = true := by rw [dB_at' ha]; exact decide_eq_true (by omega)
        have p4 : dB (j + 1) (a ++ z :: x :: y :: b) = true := by rw [dB_at1 ha]; exact decide_eq_true (by omega)
        have i1 := inv_sw p1
        have i3 := inv_sw p3
        have e1 := ih _ (by omega) _ p1
        have e3 := ih _ (by omega) _ p3
        rw [sw_at1 ha] at e1 i1
        rw [sw_at' ha] at e3 i3
        have e2 := ih _ (by omega) _ p2
        have e4 := ih _ (by omega) _ p4
        rw [sw_at' ha] at e2
        rw [sw_at1 ha] at e4
        exact ⟨_, e1.trans (e2.cons _), e3.trans (e4.cons _)⟩
      rcases three h k with rfl | hr | hr
      · exact .refl _
      · rcases hr with hr | hr
        · subst hr
          obtain ⟨T, t1, t2⟩ := near h hh hk
          exact ((t1.cons h).trans (nr [] T (.inl rfl))).trans (t2.symm.cons _)
        · subst hr
          obtain ⟨T, t1, t2⟩ := near k hk hh
          exact ((t2.cons _).trans (nr [] T (.inr rfl))).trans (t1.symm.cons _)
      · have e1 := ih (sw h l) (by omega) k (by rw [dB_apart hr.symm]; exact hk)
        have e2 := ih (sw k l) (by omega) h (by rw [dB_apart hr]; exact hh)
        rw [sw_apart hr] at e2
        exact ((e1.cons h).trans (fr [] _ hr)).trans (e2.symm.cons k)
theorem wd_start {l : List Int} {k : Nat} (h : dB k l = true) : Eqv (wd l) (k :: wd (sw k l)) := wd_head _ l (Nat.le_refl _) k h
/-- No descent is left. -/
def noD (l : List Int) : Prop := ∀ j, dB j l = false
theorem wd_noD {l : List Int} (h : noD l) : wd l = [] := by
  cases hf : firstD l with
  | none => exact wd_none hf
  | some j => have h1 := firstD_dB hf; rw [h j] at h1; cases h1
theorem wd_red (N : Nat) : ∀ l : List Int, inv l ≤ N → redB (wd l) l = true ∧ noD (run (wd l) l) := by
  induction N with
  | zero =>
    intro l hl
    cases hf : firstD l with
    | none => rw [wd_none hf]; exact ⟨rfl, firstD_none hf⟩
    | some j => have := inv_sw (firstD_dB hf); omega
  | succ N ih =>
    intro l hl
    cases hf : firstD l with
    | none => rw [wd_none hf]; exact ⟨rfl, firstD_none hf⟩
    | some j =>
      have h1 := firstD_dB hf
      have h2 := inv_sw h1
      obtain ⟨h3, h4⟩ := ih (sw j l) (by omega)
      rw [wd_some hf, redB_cons, h1, h3, run_cons]
      exact ⟨rfl, h4⟩
theorem red_wd : ∀ (u : List Nat) (l : List Int), redB u l = true → Eqv (u ++ wd (run u l)) (wd l)
  | [], l, _ => .refl _
  | j :: u, l, h => by
    rw [redB_cons, Bool.and_eq_true] at h
    exact ((red_wd u (sw j l) h.2).cons j).trans (wd_start h.1).symm
theorem red_end {u : List Nat} {l : List Int} (h : redB u l = true) (hn : noD (run u l)) : Eqv u (wd l) := by
  have := red_wd u l h
  rwa [wd_noD hn, List.append_nil] at this
theorem dv_red {u : List Nat} {l : List Int} (h : Dv u (wd l)) : redB u l = true := by
  obtain ⟨x, h⟩ := h
  have h1 := (h.symm.red (wd_red _ l (Nat.le_refl _)).1).1
  rw [redB_app, Bool.and_eq_true] at h1
  exact h1.1
theorem red_dv {u : List Nat} {l : List Int} (h : redB u l = true) : Dv u (wd l) := ⟨_, red_wd u l h⟩
theorem run_wd (l : List Int) : noD (run (wd l) l) := (wd_red _ l (Nat.le_refl _)).2
theorem wd_redB (l : List Int) : redB (wd l) l = true := (wd_red _ l (Nat.le_refl _)).1
/-- What is a descent stays one in another order that has all inversions of the first. -/
theorem red_pair : ∀ (w : List Nat) (L : List (Int × Int)), L.Pairwise (fun x y => y.1 < x.1 → y.2 < x.2) → redB w (L.map Prod.fst) = true → redB w (L.map Prod.snd) = true
  | [], _, _, _ => rfl
  | j :: w, L, hp, h => by
    rw [redB_cons, Bool.and_eq_true] at h
    obtain ⟨h1, h2⟩ := h
    have hl := dB_lt h1
    rw [List.length_map] at hl
    rw [sw_map] at h2
    obtain ⟨a, x, y, b, rfl, ha⟩ := bi hl
    have hm : (a.map Prod.fst).length = j := by rw [List.length_map, ha]
    have hm2 : (a.map Prod.snd).length = j := by rw [List.length_map, ha]
    rw [List.map_append, List.map_cons, List.map_cons, dB_at' hm] at h1
    have h1 := of_decide_eq_true h1
    rw [sw_at' ha] at h2
    rw [redB_cons, sw_map, sw_at' ha, List.map_append, List.map_cons, List.map_cons, dB_at' hm2, Bool.and_eq_true]
    have hp' := hp
    rw [List.pairwise_append, List.pairwise_cons, List.pairwise_cons] at hp'
    obtain ⟨q1, ⟨q2, q3, q4⟩, q5⟩ := hp'
    refine ⟨decide_eq_true (q2 y (by simp) h1), ?_⟩
    refine red_pair w (a ++ y :: x :: b) ?_ h2
    rw [List.pairwise_append, List.pairwise_cons, List.pairwise_cons]
    refine ⟨q1, ⟨?_, fun z hz => q2 z (by simp [hz]), q4⟩, fun u hu v hv => q5 u hu v ?_⟩
    · intro z hz
      rcases List.mem_cons.1 hz with rfl | hz
      · intro h; omega
      · exact q3 z hz
    · simp only [List.mem_cons] at hv ⊢
      rcases hv with h | h | h
      · exact .inr (.inl h)
      · exact .inl h
      · exact .inr (.inr h)
/-- The numbers 0 .. n - 1, and downwards. -/
def idl (n : Nat) : List Int := (List.range n).map Int.ofNat
def halfl (n : Nat) : List Int := (idl n).map (fun x => (n : Int) - 1 - x)
def Pm (n : Nat) (l : List Int) : Prop := List.Perm l (idl n)
theorem idl_length (n : Nat) : (idl n).length = n := by simp [idl]
theorem halfl_length (n : Nat) : (halfl n).length = n := by simp [halfl, idl]
theorem idl_mem {n : Nat} {x : Int} : x ∈ idl n ↔ 0 ≤ x ∧ x < n := by
  unfold idl
  rw [List.mem_map]
  constructor
  · rintro ⟨k, hk, rfl⟩
    rw [List.mem_range] at hk
    simp; omega
  · intro h
    exact ⟨x.toNat, by rw [List.mem_range]; omega, by simp; omega⟩
theorem idl_get {n i : Nat} (h : i < n) : (idl n)[i]? = some (i : Int) := by simp [idl, h]
theorem idl_sorted (n : Nat) : (idl n).Pairwise (· < ·) := by
  unfold idl
  rw [List.pairwise_map]
  exact List.Pairwise.imp (fun h => by simpa using h) List.pairwise_lt_range
theorem halfl_sorted (n : Nat) : (halfl n).Pairwise (fun x y => y < x) := by
  unfold halfl
  rw [List.pairwise_map]
  exact (idl_sorted n).imp fun h => by omega
theorem noD_pair : ∀ {l : List Int}, noD l → l.Pairwise (· ≤ ·)
  | [], _ => List.Pairwise.nil
  | [_], _ => List.pairwise_singleton _ _
  | x :: y :: r, h => by
    have h0 : ¬ y < x := of_decide_eq_false (h 0)
    have ih := noD_pair (l := y :: r) fun j => h (j + 1)
    refine List.pairwise_cons.2 ⟨fun z hz => ?_, ih⟩
    rcases List.mem_cons.1 hz with rfl | hz
    · omega
    · have := (List.pairwise_cons.1 ih).1 z hz; omega
theorem pair_noD : ∀ {l : List Int}, l.Pairwise (· < ·) → noD l
  | [], _, j => by cases j <;> rfl
  | [_], _, j => by
    cases j with
    | zero => rfl
    | succ j => cases j <;> rfl
  | x :: y :: r, h, j => by
    obtain ⟨h1, h2⟩ := List.pairwise_cons.1 h
    cases j with
    | zero => have := h1 y (by simp); exact decide_eq_false (by omega)
    | succ j => exact pair_noD (l := y :: r) h2 j
theorem Pm.noD {n : Nat} {l : List Int} (h : Pm n l) (hn : noD l) : l = idl n :=
  List.Perm.eq_of_pairwise (le := (· ≤ ·)) (fun a b _ _ h1 h2 => by omega) (noD_pair hn) ((idl_sorted n).imp fun h => by omega) h
theorem Pm.len {n : Nat} {l : List Int} (h : Pm n l) : l.length = n := by rw [h.length_eq, idl_length]
theorem Pm.mem {n : Nat} {l : List Int} (h : Pm n l) {x : Int} : x ∈ l ↔ 0 ≤ x ∧ x < n := by rw [List.Perm.mem_iff h, idl_mem]
theorem Pm.sw {n : Nat} {l : List Int} (h : Pm n l) (j : Nat) : Pm n (sw j l) := (sw_perm j l).trans h
theorem Pm.run {n : Nat} {l : List Int} (h : Pm n l) (w : List Nat) : Pm n (run w l) := (run_perm w l).trans h
theorem Pm.id (n : Nat) : Pm n (idl n) := .refl _
theorem Pm.runs {n : Nat} {l : List Int} (h : Pm n l) : Br.run (wd l) l = idl n := (h.run _).noD (run_wd l)
theorem Pm.nodup {n : Nat} {l : List Int} (h : Pm n l) : l.Nodup := by
  refine (List.Perm.nodup_iff h).2 ?_
  exact (idl_sorted n).imp fun h e => by omega
theorem idl_noD (n : Nat) : noD (idl n) := pair_noD (idl_sorted n)
/-- Every reduced word divides the half twist. -/
theorem red_half {n : Nat} {w : List Nat} {l : List Int} (hl : l.length = n) (h : redB w l = true) : redB w (halfl n) = true := by
  have e1 : (l.zip (halfl n)).map Prod.fst = l := List.map_fst_zip (by rw [hl, halfl_length]; exact Nat.le_refl _)
  have e2 : (l.zip (halfl n)).map Prod.snd = halfl n := List.map_snd_zip (by rw [hl, halfl_length]; exact Nat.le_refl _)
  rw [← e2]
  refine red_pair w _ ?_ (by rw [e1]; exact h)
  have h3 := halfl_sorted n
  rw [← e2, List.pairwise_map] at h3
  refine List.Pairwise.imp ?_ h3
  intro a b h _
  exact h
/-- Two numbers change places. -/
def fv (k : Nat) (v : Int) : Int := if v = k then k + 1 else if v = k + 1 then k else v
def bh (k : Nat) (l : List Int) : List Int := l.map (fv k)
theorem idl_bi {n k : Nat} (h : k + 1 < n) : ∃ a b, idl n = a ++ (k : Int) :: ((k : Int) + 1) :: b ∧ a.length = k ∧ (∀ x ∈ a, x < k) ∧ (∀ x ∈ b, (k : Int) + 1 < x) := by
  obtain ⟨a, x, y, b, he, ha⟩ := bi (l := idl n) (j := k) (by rw [idl_length]; exact h)
  have h1 : (idl n)[k]? = some x := by rw [he, List.getElem?_append_right (by omega), ha, Nat.sub_self]; rfl
  have h2 : (idl n)[k + 1]? = some y := by rw [he, List.getElem?_append_right (by omega), ha, Nat.add_sub_cancel_left]; rfl
  rw [idl_get (by omega)] at h1 h2
  injection h1 with h1
  injection h2 with h2
  subst h1 h2
  have hs := idl_sorted n
  rw [he, List.pairwise_append, List.pairwise_cons, List.pairwise_cons] at hs
  obtain ⟨_, ⟨_, h3, _⟩, h4⟩ := hs
  have e : ((k + 1 : Nat) : Int) = (k : Int) + 1 := by omega
  rw [e] at he h3
  exact ⟨a, b, he, ha, fun x hx => h4 x hx k (by simp), h3⟩
theorem fv_id {k : Nat} {l : List Int} (h : ∀ x ∈ l, x ≠ k ∧ x ≠ (k : Int) + 1) : l.map (fv k) = l := by
  have : l.map (fv k) = l.map (fun x => x) := List.map_congr_left fun x hx => by
    obtain ⟨h1, h2⟩ := h x hx
    rw [fv, if_neg h1, if_neg h2]
  rw [this, List.map_id']
theorem fv_k (k : Nat) : fv k k = (k : Int) + 1 := by rw [fv, if_pos rfl]
theorem fv_k1 (k : Nat) : fv k ((k : Int) + 1) = k := by rw [fv, if_neg (by omega), if_pos rfl]
theorem idl_fv {n k : Nat} (h : k + 1 < n) : (idl n).map (fv k) = sw k (idl n) ∧ dB k (sw k (idl n)) = true := by
  obtain ⟨a, b, he, ha, h1, h2⟩ := idl_bi h
  rw [he, sw_at' ha, List.map_append, List.map_cons, List.map_cons, fv_k, fv_k1, fv_id fun x hx => by have := h1 x hx; omega, fv_id fun x hx => by have := h2 x hx; omega, dB_at' ha]
  exact ⟨rfl, decide_eq_true (by omega)⟩
theorem Pm.bh {n k : Nat} {l : List Int} (h : Pm n l) (hk : k + 1 < n) : Pm n (bh k l) := by
  have h1 : List.Perm (l.map (fv k)) ((idl n).map (fv k)) := List.Perm.map _ h
  rw [(idl_fv hk).1] at h1
  exact h1.trans (sw_perm k _)
/-- The greater of two neighbouring numbers does not stand before the lesser one. -/
def ordK (k : Nat) (l : List Int) : Prop := l.Pairwise (fun x y => ¬ (x = (k : Int) + 1 ∧ y = k))
/-- A letter behind. -/
theorem wd_behind {n k : Nat} {l : List Int} (h : Pm n l) (hk : k + 1 < n) (ho : ordK k l) : Eqv (wd (bh k l)) (wd l ++ [k]) := by
  obtain ⟨f1, f2⟩ := idl_fv hk
  have e1 : (l.map (fun v => (v, fv k v))).map Prod.fst = l := by rw [List.map_map]; exact List.map_id' _
  have e2 : (l.map (fun v => (v, fv k v))).map Prod.snd = bh k l := by rw [List.map_map]; rfl
  have h1 : redB (wd l) (bh k l) = true := by
    rw [← e2]
    refine red_pair _ _ ?_ (by rw [e1]; exact wd_redB l)
    rw [List.pairwise_map]
    refine List.Pairwise.imp ?_ ho
    intro x y hxy hlt
    simp only at hlt ⊢
    unfold fv
    split <;> split <;> (try split) <;> (try split) <;> omega
  have h2 : run (wd l) (bh k l) = sw k (idl n) := by rw [bh, run_map, h.runs, f1]
  refine (red_end (l := bh k l) ?_ ?_).symm
  · rw [redB_app, h1, h2, redB_cons, f2]; rfl
  · rw [run_app, h2, run_cons, run_nil, sw_sw]; exact idl_noD n
theorem halfl_Pm (n : Nat) : Pm n (halfl n) := by
  have h1 : (halfl n) = (idl n).reverse := by
    refine List.ext_getElem? fun i => ?_
    by_cases hi : i < n
    · rw [List.getElem?_reverse (by rw [idl_length]; exact hi), idl_length, idl_get (by omega), halfl, List.getElem?_map, idl_get hi]
      simp; omega
    · rw [List.getElem?_eq_none (by rw [halfl_length]; omega), List.getElem?_eq_none (by rw [List.length_reverse, idl_length]; omega)]
  rw [h1]
  exact List.reverse_perm _
theorem half_bi {n j : Nat} (h : j + 1 < n) : ∃ a b, halfl n = a ++ ((n - 2 - j : Nat) + 1 : Int) :: ((n - 2 - j : Nat) : Int) :: b ∧ a.length = j ∧ (∀ x ∈ a, ((n - 2 - j : Nat) : Int) + 1 < x) ∧ (∀ x ∈ b, x < ((n - 2 - j : Nat) : Int)) := by
  obtain ⟨a, b, he, ha, h1, h2⟩ := idl_bi h
  refine ⟨a.map (fun x => (n : Int) - 1 - x), b.map (fun x => (n : Int) - 1 - x), ?_, by simp [ha], ?_, ?_⟩
  · rw [halfl, he, List.map_append, List.map_cons, List.map_cons]
    congr 2
    · omega
    · congr 1; omega
  · intro x hx
    obtain ⟨y, hy, rfl⟩ := List.mem_map.1 hx
    have := h1 y hy; omega
  · intro x hx
    obtain ⟨y, hy, rfl⟩ := List.mem_map.1 hx
    have := h2 y hy; omega
theorem half_dB {n j : Nat} (h : j + 1 < n) : dB j (halfl n) = true := by
  obtain ⟨a, b, he, ha, _, _⟩ := half_bi h
  rw [he, dB_at' ha]
  exact decide_eq_true (by omega)
/-- The half twist. -/
def D (n : Nat) : List Nat := wd (halfl n)
theorem half_bh {n j : Nat} (h : j + 1 < n) : bh (n - 2 - j) (sw j (halfl n)) = halfl n ∧ bh (n - 2 - j) (halfl n) = sw j (halfl n) ∧ ordK (n - 2 - j) (sw j (halfl n)) := by
  obtain ⟨a, b, he, ha, h1, h2⟩ := half_bi h
  generalize n - 2 - j = m at *
  have i1 := fv_id (k := m) (l := a) fun x hx => by have := h1 x hx; omega
  have i2 := fv_id (k := m) (l := b) fun x hx => by have := h2 x hx; omega
  rw [he, sw_at' ha]
  refine ⟨?_, ?_, ?_⟩
  · rw [bh, List.map_append, List.map_cons, List.map_cons, fv_k, fv_k1, i1, i2]
  · rw [bh, List.map_append, List.map_cons, List.map_cons, fv_k, fv_k1, i1, i2]
  · unfold ordK
    rw [List.pairwise_append, List.pairwise_cons, List.pairwise_cons]
    have ne : ∀ {l : List Int}, (∀ x ∈ l, x ≠ (m : Int) + 1) → l.Pairwise (fun x y => ¬ (x = (m : Int) + 1 ∧ y = m)) := fun {l} h => by
      refine List.pairwise_iff_forall_sublist.2 fun {x y} hs hxy => ?_
      exact h x (hs.subset (by simp)) hxy.1
    refine ⟨ne fun x hx => by have := h1 x hx; omega, ⟨fun x _ hx => by omega, fun x hx hh => by have := h2 x hx; omega, ne fun x hx => by have := h2 x hx; omega⟩, fun x hx y _ hh => by have := h1 x hx; omega⟩
/-- What is left of the half twist before its last letter. -/
theorem D_last {n j : Nat} (h : j + 1 < n) : Eqv (D n) (wd (sw j (halfl n)) ++ [n - 2 - j]) := by
  obtain ⟨h1, _, h3⟩ := half_bh h
  have := wd_behind ((halfl_Pm n).sw j) (show (n - 2 - j) + 1 < n by omega) h3
  rw [h1] at this
  exact this
theorem D_first {n j : Nat} (h : j + 1 < n) : Eqv (D n) (j :: wd (sw j (halfl n))) := wd_start (half_dB h)
/-- X' is X turned by the half twist. -/
def Fl (n : Nat) (X X' : List Nat) : Prop := Eqv (X ++ D n) (D n ++ X')
theorem Fl.nil (n : Nat) : Fl n [] [] := by unfold Fl; rw [List.nil_append, List.append_nil]; exact .refl _
theorem Fl.app {n : Nat} {X X' Y Y' : List Nat} (h : Fl n X X') (k : Fl n Y Y') : Fl n (X ++ Y) (X' ++ Y') := by
  unfold Fl at *
  have e1 : Eqv (X ++ Y ++ D n) (X ++ (D n ++ Y')) := by rw [List.append_assoc]; exact k.pre X
  have e2 : Eqv (X ++ (D n ++ Y')) (D n ++ (X' ++ Y')) := by rw [← List.append_assoc, ← List.append_assoc]; exact h.post Y'
  exact e1.trans e2
theorem Fl.uniq {n : Nat} {X X' Y Y' : List Nat} (h : Fl n X X') (k : Fl n Y Y') (e : Eqv X Y) : Eqv X' Y' := cancelL ((h.symm.trans (e.post _)).trans k)
theorem Fl.eqv {n : Nat} {X X' Y Y' : List Nat} (h : Fl n X X') (e : Eqv X Y) (e' : Eqv X' Y') : Fl n Y Y' := ((e.symm.post _).trans h).trans (e'.pre _)
theorem Fl.D (n : Nat) : Fl n (D n) (D n) := .refl _
theorem Fl.one {n j : Nat} (h : j + 1 < n) : Fl n [j] [n - 2 - j] := by
  unfold Fl
  exact ((D_last h).cons j).trans ((D_first h).symm.post [n - 2 - j])
/-- A permutation turned. -/
def flipl (l : List Int) : List Int := (l.map (fun x => (l.length : Int) - 1 - x)).reverse
theorem flip_step {l : List Int} {j : Nat} (h : j + 1 < l.length) : sw (l.length - 2 - j) (flipl l) = flipl (sw j l) ∧ dB (l.length - 2 - j) (flipl l) = dB j l := by
  have hl := sw_length j l
  unfold flipl
  rw [hl]
  generalize hn : l.length = n at *
  obtain ⟨a, x, y, b, rfl, ha⟩ := bi (show j + 1 < l.length by omega)
  have hb : (b.map (fun x => (n : Int) - 1 - x)).reverse.length = n - 2 - j := by
    rw [List.length_reverse, List.length_map]
    simp only [List.length_append, List.length_cons] at hn
    omega
  rw [sw_at' ha]
  simp only [List.map_append, List.map_cons, List.reverse_append, List.reverse_cons, List.append_assoc, List.cons_append, List.nil_append]
  rw [sw_at' hb, dB_at' hb, dB_at' ha]
  refine ⟨rfl, ?_⟩
  by_cases hxy : y < x
  · rw [decide_eq_true hxy, decide_eq_true (by omega)]
  · rw [decide_eq_false hxy, decide_eq_false (by omega)]
theorem flip_red : ∀ (w : List Nat) (l : List Int), redB w l = true → redB (w.map (fun j => l.length - 2 - j)) (flipl l) = true ∧ run (w.map (fun j => l.length - 2 - j)) (flipl l) = flipl (run w l)
  | [], l, _ => ⟨rfl, rfl⟩
  | j :: w, l, h => by
    rw [redB_cons, Bool.and_eq_true] at h
    obtain ⟨h1, h2⟩ := flip_step (dB_lt h.1)
    obtain ⟨h3, h4⟩ := flip_red w (sw j l) h.2
    rw [sw_length] at h3 h4
    rw [List.map_cons, redB_cons, run_cons, h1, h2, h.1, h3, h4]
    exact ⟨rfl, rfl⟩
theorem flip_id (n : Nat) : flipl (idl n) = idl n := by
  refine List.ext_getElem? fun i => ?_
  unfold flipl
  by_cases hi : i < n
  · rw [List.getElem?_reverse (by rw [List.length_map, idl_length]; exact hi), List.length_map, idl_length, List.getElem?_map, idl_get (by omega), idl_get hi]
    simp; omega
  · rw [List.getElem?_eq_none (by rw [List.length_reverse, List.length_map, idl_length]; omega), List.getElem?_eq_none (by rw [idl_length]; omega)]
theorem Pm.flip {n : Nat} {l : List Int} (h : Pm n l) : Pm n (flipl l) := by
  have h1 := h.len
  unfold flipl
  rw [h1]
  have h2 : List.Perm (l.map (fun x => (n : Int) - 1 - x)) (halfl n) := List.Perm.map _ h
  exact ((List.reverse_perm _).trans h2).trans (halfl_Pm n)
theorem wd_lt : ∀ (w : List Nat) (l : List Int), redB w l = true → ∀ j ∈ w, j + 1 < l.length
  | [], _, _, j, hj => by cases hj
  | k :: w, l, h, j, hj => by
    rw [redB_cons, Bool.and_eq_true] at h
    rcases List.mem_cons.1 hj with rfl | hj
    · exact dB_lt h.1
    · have := wd_lt w (sw k l) h.2 j hj
      rwa [sw_length] at this
theorem Fl.map {n : Nat} : ∀ (w : List Nat), (∀ j ∈ w, j + 1 < n) → Fl n w (w.map (fun j => n - 2 - j))
  | [], _ => .nil n
  | j :: w, h => (Fl.one (h j (by simp))).app (Fl.map w fun k hk => h k (by simp [hk]))
theorem Fl.perm {n : Nat} {l : List Int} (h : Pm n l) : Fl n (wd l) (wd (flipl l)) := by
  have hr := wd_redB l
  obtain ⟨h1, h2⟩ := flip_red (wd l) l hr
  rw [h.runs, flip_id] at h2
  have h3 := red_end h1 (by rw [h2]; exact idl_noD n)
  have h4 := Fl.map (n := n) (wd l) (fun j hj => by have := wd_lt _ _ hr j hj; rwa [h.len] at this)
  rw [h.len] at h3
  exact h4.eqv (.refl _) h3

end Go.Proofs.YthjamohaeahipaaGreat.Br
