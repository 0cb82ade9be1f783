/- Steps of the proof, joined from several texts: BD QG. -/
import Derived.Test.YtnjgmhdmjaijgaaGreatZ14
import Derived.Test.YtnjgmhdmjaijgaaGreatZ19
import Derived.Test.YtnjgmhdmjaijgaaGreatZ4

/- Braids with letters of both signs, plain: a word is a power of the half twist to the left of a positive word. -/
namespace Go.Proofs.YtnjgmhdmjaijgaaGreat.Br

/-- A braid: so many inverse half twists, then a positive word. -/
abbrev Sg := Nat × List Nat
def Sq (n : Nat) (x y : Sg) : Prop := Eqv (Dp n y.1 ++ x.2) (Dp n x.1 ++ y.2)
theorem Sq.refl (n : Nat) (x : Sg) : Sq n x x := Eqv.refl _
theorem Sq.symm {n : Nat} {x y : Sg} (h : Sq n x y) : Sq n y x := Eqv.symm h
theorem Sq.trans {n : Nat} {x y z : Sg} (h : Sq n x y) (k : Sq n y z) : Sq n x z := by
  unfold Sq at *
  have h1 := h.pre (Dp n z.1)
  have h2 := k.pre (Dp n x.1)
  rw [← List.append_assoc, ← List.append_assoc, Dp_comm n z.1 y.1, Dp_comm n z.1 x.1, List.append_assoc, List.append_assoc] at h1
  rw [← List.append_assoc, ← List.append_assoc, Dp_comm n x.1 y.1, List.append_assoc, List.append_assoc] at h2
  exact cancelL (h1.trans h2)
theorem Sq.of {n a : Nat} {P Q : List Nat} (h : Eqv P Q) : Sq n (a, P) (a, Q) := h.pre _
/-- What the last letter lacks of the half twist. -/
def Ek (n k : Nat) : List Nat := wd (bh k (halfl n))
theorem Ek_last {n k : Nat} (h : k + 1 < n) : Eqv (Ek n k ++ [k]) (D n) := by
  obtain ⟨j, hj, hjk⟩ : ∃ j, j + 1 < n ∧ n - 2 - j = k := ⟨n - 2 - k, by omega, by omega⟩
  have h1 := D_last hj
  have h2 := (half_bh hj).2.1
  rw [hjk] at h1 h2
  rw [Ek, h2]
  exact h1.symm
theorem Ek_first {n k : Nat} (h : k + 1 < n) : Eqv ((n - 2 - k) :: Ek n k) (D n) := by
  obtain ⟨j, hj, hjk⟩ : ∃ j, j + 1 < n ∧ n - 2 - j = k := ⟨n - 2 - k, by omega, by omega⟩
  have h1 := D_first hj
  have h2 := (half_bh hj).2.1
  rw [hjk] at h2
  rw [Ek, h2, show n - 2 - k = j by omega]
  exact h1.symm
/-- A letter behind a braid: what the program makes of it, up to relations. -/
def Stp (n : Nat) (x : Sg) (a : Int) (y : Sg) : Prop :=
  (0 < a ∧ a < n ∧ y.1 = x.1 ∧ Eqv y.2 (x.2 ++ [a.toNat - 1])) ∨ (a < 0 ∧ -a < n ∧ y.1 = x.1 + 1 ∧ ∃ Q, Fl n x.2 Q ∧ Eqv y.2 (Q ++ Ek n ((-a).toNat - 1)))
theorem Stp.same {n : Nat} {x x' y y' : Sg} {a : Int} (h : Stp n x a y) (h' : Stp n x' a y') (e : Sq n x x') : Sq n y y' := by
  unfold Sq at *
  rcases h with ⟨p1, p2, p3, p4⟩ | ⟨p1, p2, p3, Q, p4, p5⟩
  · rcases h' with ⟨_, _, q3, q4⟩ | ⟨q1, _⟩
    · rw [p3, q3]
      refine ((p4.pre _).trans ?_).trans (q4.symm.pre _)
      rw [← List.append_assoc, ← List.append_assoc]
      exact e.post _
    · omega
  · rcases h' with ⟨q1, _⟩ | ⟨_, _, q3, R, q4, q5⟩
    · omega
    · rw [p3, q3]
      refine ((p5.pre _).trans ?_).trans (q5.symm.pre _)
      rw [← List.append_assoc, ← List.append_assoc]
      have h1 : Eqv (Dp n x'.1 ++ Q) (Dp n x.1 ++ R) := Fl.uniq ((Fl.pow n _).app p4) ((Fl.pow n _).app q4) e
      have h2 := (h1.pre (D n)).post (Ek n ((-a).toNat - 1))
      simpa [Dp, List.append_assoc] using h2
/-- Words of letters. -/
inductive Wal (n : Nat) : Sg → List Int → Sg → Prop
  | nil (x : Sg) : Wal n x [] x
  | cons {x y z : Sg} {a : Int} {w : List Int} (h : Stp n x a y) (t : Wal n y w z) : Wal n x (a :: w) z
theorem Wal.app {n : Nat} {x y z : Sg} {u v : List Int} (h : Wal n x u y) (t : Wal n y v z) : Wal n x (u ++ v) z := by
  induction h with
  | nil x => exact t
  | cons s _ ih => exact .cons s (ih t)
theorem Wal.same {n : Nat} {x y : Sg} {w : List Int} (h : Wal n x w y) : ∀ {x' y' : Sg}, Wal n x' w y' → Sq n x x' → Sq n y y' := by
  induction h with
  | nil x => intro x' y' h' e; cases h'; exact e
  | cons s _ ih =>
    intro x' y' h' e
    cases h' with
    | cons s' t' => exact ih t' (s.same s' e)
def Lt (n : Nat) (a : Int) : Prop := a ≠ 0 ∧ -(n : Int) < a ∧ a < n
theorem Fl.ex {n : Nat} (P : List Nat) (h : ∀ j ∈ P, j + 1 < n) : ∃ Q, Fl n P Q ∧ ∀ j ∈ Q, j + 1 < n := ⟨_, Fl.map P h, fun j hj => by
  obtain ⟨k, hk, rfl⟩ := List.mem_map.1 hj
  have := h k hk
  omega⟩
/-- Positive words on the strands. -/
def On (n : Nat) (P : List Nat) : Prop := ∀ j ∈ P, j + 1 < n
theorem On.app {n : Nat} {P Q : List Nat} (h : On n P) (k : On n Q) : On n (P ++ Q) := fun j hj => by
  rcases List.mem_append.1 hj with hj | hj
  · exact h j hj
  · exact k j hj
theorem On.wd {n : Nat} {l : List Int} (h : Pm n l) : On n (wd l) := fun j hj => by have := wd_lt _ _ (wd_redB l) j hj; rwa [h.len] at this
theorem On.Ek {n k : Nat} (h : k + 1 < n) : On n (Ek n k) := On.wd ((halfl_Pm n).bh h)
theorem Stp.ex {n : Nat} {x : Sg} {a : Int} (ha : Lt n a) (hx : On n x.2) : ∃ y, Stp n x a y ∧ On n y.2 := by
  obtain ⟨h0, h1, h2⟩ := ha
  by_cases h : 0 < a
  · exact ⟨(x.1, x.2 ++ [a.toNat - 1]), .inl ⟨h, h2, rfl, .refl _⟩, hx.app fun j hj => by simp at hj; omega⟩
  · obtain ⟨Q, q1, q2⟩ := Fl.ex x.2 hx
    exact ⟨(x.1 + 1, Q ++ Ek n ((-a).toNat - 1)), .inr ⟨by omega, by omega, rfl, Q, q1, .refl _⟩, On.app q2 (On.Ek (by omega))⟩
theorem Wal.ex {n : Nat} : ∀ (w : List Int) (x : Sg), (∀ a ∈ w, Lt n a) → On n x.2 → ∃ y, Wal n x w y ∧ On n y.2
  | [], x, _, hx => ⟨x, .nil x, hx⟩
  | a :: w, x, h, hx => by
    obtain ⟨y, h1, h2⟩ := Stp.ex (h a (by simp)) hx
    obtain ⟨z, h3, h4⟩ := Wal.ex w y (fun b hb => h b (by simp [hb])) h2
    exact ⟨z, .cons h1 h3, h4⟩
theorem flip_flip {n : Nat} {P : List Nat} (h : On n P) : (P.map (fun j => n - 2 - j)).map (fun j => n - 2 - j) = P := by
  rw [List.map_map]
  have : P.map ((fun j => n - 2 - j) ∘ (fun j => n - 2 - j)) = P.map (fun j => j) := List.map_congr_left fun j hj => by
    have := h j hj
    show n - 2 - (n - 2 - j) = j
    omega
  rw [this, List.map_id']
theorem Fl.back {n : Nat} {P Q : List Nat} (h : Fl n P Q) (hp : On n P) : Fl n Q P := by
  have h1 := Fl.map P hp
  have h2 := Fl.map (n := n) (P.map (fun j => n - 2 - j)) (fun j hj => by
    obtain ⟨k, hk, hkj⟩ := List.mem_map.1 hj
    have := hp k hk
    have hkj : n - 2 - k = j := hkj
    omega)
  rw [flip_flip hp] at h2
  exact h2.eqv (Fl.uniq h h1 (.refl _)).symm (.refl _)
/-- The square of the half twist is central. -/
theorem central {n : Nat} {P : List Nat} (hp : On n P) : Eqv (P ++ (D n ++ D n)) (D n ++ (D n ++ P)) := by
  obtain ⟨Q, hQ, _⟩ := Fl.ex P hp
  have h1 : Eqv (P ++ D n) (D n ++ Q) := hQ
  have h2 : Eqv (Q ++ D n) (D n ++ P) := hQ.back hp
  have h3 := h1.post (D n)
  have h4 := h2.pre (D n)
  rw [List.append_assoc] at h3
  rw [List.append_assoc] at h3
  exact h3.trans h4
/-- A letter and its inverse cancel. -/
theorem Stp.back {n : Nat} {x y z : Sg} {a : Int} (hx : On n x.2) (h : Stp n x a y) (k : Stp n y (-a) z) : Sq n z x := by
  unfold Sq
  rcases h with ⟨p1, p2, p3, p4⟩ | ⟨p1, p2, p3, Q, p4, p5⟩
  · rcases k with ⟨q1, _⟩ | ⟨_, _, q3, Q, q4, q5⟩
    · omega
    · rw [q3, p3, Dp_snoc, List.append_assoc]
      refine Eqv.pre _ ?_
      rw [show (-(-a)).toNat = a.toNat by rw [Int.neg_neg]] at q5
      have hk : a.toNat - 1 + 1 < n := by omega
      generalize a.toNat - 1 = m at *
      have h1 : Eqv (y.2 ++ D n) ((x.2 ++ D n) ++ [n - 2 - m]) := by
        refine (p4.post _).trans ?_
        rw [List.append_assoc, List.append_assoc]
        exact (Fl.one hk).pre _
      have h2 : Eqv (D n ++ Q) ((x.2 ++ D n) ++ [n - 2 - m]) := Eqv.trans (Eqv.symm q4) h1
      have h3 : Eqv (D n ++ z.2) (x.2 ++ (D n ++ D n)) := by
        refine (q5.pre _).trans ?_
        rw [← List.append_assoc]
        refine (h2.post _).trans ?_
        rw [List.append_assoc, List.append_assoc]
        exact ((Ek_first hk).pre _).pre _
      exact cancelL (h3.trans (central hx))
  · rcases k with ⟨q1, q2, q3, q4⟩ | ⟨q1, _⟩
    · rw [q3, p3, Dp_snoc, List.append_assoc]
      refine Eqv.pre _ ?_
      have hk : (-a).toNat - 1 + 1 < n := by omega
      generalize (-a).toNat - 1 = m at *
      have h1 : Eqv z.2 (Q ++ D n) := by
        refine q4.trans ((p5.post _).trans ?_)
        rw [List.append_assoc]
        exact (Ek_last hk).pre _
      exact h1.trans (p4.back hx)
    · omega
theorem Ek_comm {n m k : Nat} (hm : m + 1 < n) (hk : k + 1 < n) (h : apart m k) : Eqv ((n - 2 - m) :: Ek n k) (Ek n k ++ [m]) := by
  refine cancelR (x := [k]) ?_
  have h1 : Eqv ((n - 2 - m) :: Ek n k ++ [k]) ((n - 2 - m) :: D n) := (Ek_last hk).cons _
  have h2 : Eqv ((n - 2 - m) :: D n) (D n ++ [m]) := by
    have := Fl.one (n := n) (j := n - 2 - m) (by omega)
    rw [show n - 2 - (n - 2 - m) = m by omega] at this
    exact this
  have h3 : Eqv (D n ++ [m]) (Ek n k ++ [m] ++ [k]) := by
    refine ((Ek_last hk).symm.post [m]).trans ?_
    rw [List.append_assoc, List.append_assoc]
    exact fr _ [] h.symm
  exact (h1.trans h2).trans h3
theorem Ek_flips {n j k : Nat} {F G : List Nat} (hj : j + 1 < n) (hk : k + 1 < n) (h : apart j k) (f : Fl n (Ek n j) F) (g : Fl n (Ek n k) G) : Eqv (F ++ Ek n k) (G ++ Ek n j) := by
  refine cancelR (x := [k, j]) ?_
  have lhs : Eqv (F ++ Ek n k ++ [k, j]) (D n ++ D n) := by
    have h1 : Eqv (F ++ Ek n k ++ [k, j]) (F ++ D n ++ [j]) := by
      have := ((Ek_last hk).pre F).post [j]
      simpa [List.append_assoc] using this
    have h2 : Eqv (F ++ D n ++ [j]) (D n ++ Ek n j ++ [j]) := Eqv.post [j] (f.back (On.Ek hj))
    have h3 : Eqv (D n ++ Ek n j ++ [j]) (D n ++ D n) := by
      rw [List.append_assoc]
      exact (Ek_last hj).pre _
    exact (h1.trans h2).trans h3
  have rhs : Eqv (G ++ Ek n j ++ [k, j]) (D n ++ D n) := by
    have h0 : Eqv (G ++ Ek n j ++ [k, j]) (G ++ Ek n j ++ [j, k]) := fr _ [] h.symm
    have h1 : Eqv (G ++ Ek n j ++ [j, k]) (G ++ D n ++ [k]) := by
      have := ((Ek_last hj).pre G).post [k]
      simpa [List.append_assoc] using this
    have h2 : Eqv (G ++ D n ++ [k]) (D n ++ Ek n k ++ [k]) := Eqv.post [k] (g.back (On.Ek hk))
    have h3 : Eqv (D n ++ Ek n k ++ [k]) (D n ++ D n) := by
      rw [List.append_assoc]
      exact (Ek_last hk).pre _
    exact ((h0.trans h1).trans h2).trans h3
  exact lhs.trans rhs.symm
/-- Letters that do not touch. -/
def farI (a b : Int) : Prop := apart a.natAbs b.natAbs
theorem far_pn {n : Nat} {x y z y' z' : Sg} {a b : Int} (ha : 0 < a) (hb : b < 0) (hab : farI a b) (h1 : Stp n x a y) (h2 : Stp n y b z) (h3 : Stp n x b y') (h4 : Stp n y' a z') : Sq n z z' := by
  rcases h1 with ⟨_, p2, p3, p4⟩ | ⟨p1, _⟩
  · rcases h2 with ⟨q1, _⟩ | ⟨_, q2, q3, Q, q4, q5⟩
    · omega
    · rcases h3 with ⟨r1, _⟩ | ⟨_, _, r3, R, r4, r5⟩
      · omega
      · rcases h4 with ⟨_, _, s3, s4⟩ | ⟨s1, _⟩
        · have hm : a.toNat - 1 + 1 < n := by omega
          have hk : (-b).toNat - 1 + 1 < n := by omega
          have hap : apart (a.toNat - 1) ((-b).toNat - 1) := by unfold farI apart at *; omega
          generalize a.toNat - 1 = m at *
          generalize (-b).toNat - 1 = k at *
          unfold Sq
          rw [q3, p3, s3, r3]
          refine Eqv.pre _ ?_
          have e1 : Eqv Q (R ++ [n - 2 - m]) := Fl.uniq q4 (r4.app (Fl.one hm)) p4
          refine q5.trans ((e1.post _).trans ?_)
          refine Eqv.trans ?_ ((r5.post _).symm.trans s4.symm)
          rw [List.append_assoc, List.append_assoc]
          exact (Ek_comm hm hk hap).pre _
        · omega
  · omega
theorem Stp.far {n : Nat} {x y z y' z' : Sg} {a b : Int} (hx : On n x.2) (hab : farI a b) (h1 : Stp n x a y) (h2 : Stp n y b z) (h3 : Stp n x b y') (h4 : Stp n y' a z') : Sq n z z' := by
  have ha : a ≠ 0 := by rcases h1 with ⟨p, _⟩ | ⟨p, _⟩ <;> omega
  have hb : b ≠ 0 := by rcases h2 with ⟨p, _⟩ | ⟨p, _⟩ <;> omega
  by_cases pa : 0 < a
  · by_cases pb : 0 < b
    · rcases h1 with ⟨_, p2, p3, p4⟩ | ⟨p1, _⟩
      · rcases h2 with ⟨_, q2, q3, q4⟩ | ⟨q1, _⟩
        · rcases h3 with ⟨_, _, r3, r4⟩ | ⟨r1, _⟩
          · rcases h4 with ⟨_, _, s3, s4⟩ | ⟨s1, _⟩
            · have hap : apart (a.toNat - 1) (b.toNat - 1) := by unfold farI apart at *; omega
              unfold Sq
              rw [q3, p3, s3, r3]
              refine Eqv.pre _ ?_
              refine (q4.trans (p4.post _)).trans (Eqv.trans ?_ ((r4.post _).symm.trans s4.symm))
              rw [List.append_assoc, List.append_assoc]
              exact fr _ [] hap
            · omega
          · omega
        · omega
      · omega
    · exact far_pn pa (by omega) hab h1 h2 h3 h4
  · by_cases pb : 0 < b
    · exact (far_pn pb (by omega) hab.symm h3 h4 h1 h2).symm
    · rcases h1 with ⟨p1, _⟩ | ⟨_, p2, p3, P, p4, p5⟩
      · omega
      · rcases h2 with ⟨q1, _⟩ | ⟨_, q2, q3, Q, q4, q5⟩
        · omega
        · rcases h3 with ⟨r1, _⟩ | ⟨_, _, r3, R, r4, r5⟩
          · omega
          · rcases h4 with ⟨s1, _⟩ | ⟨_, _, s3, S, s4, s5⟩
            · omega
            · have hj : (-a).toNat - 1 + 1 < n := by omega
              have hk : (-b).toNat - 1 + 1 < n := by omega
              have hap : apart ((-a).toNat - 1) ((-b).toNat - 1) := by unfold farI apart at *; omega
              generalize (-a).toNat - 1 = j at *
              generalize (-b).toNat - 1 = k at *
              unfold Sq
              rw [q3, p3, s3, r3]
              refine Eqv.pre _ ?_
              obtain ⟨F, hF, _⟩ := Fl.ex (Ek n j) (On.Ek hj)
              obtain ⟨G, hG, _⟩ := Fl.ex (Ek n k) (On.Ek hk)
              have e1 : Eqv P R := Fl.uniq p4 r4 (.refl _)
              have e2 : Fl n P x.2 := p4.back hx
              have e3 : Eqv Q (x.2 ++ F) := Fl.uniq q4 (e2.app hF) p5
              have e4 : Eqv S (x.2 ++ G) := Fl.uniq s4 ((r4.back hx).app hG) r5
              refine (q5.trans (e3.post _)).trans (Eqv.trans ?_ ((e4.post _).symm.trans s5.symm))
              rw [List.append_assoc, List.append_assoc]
              exact (Ek_flips hj hk hap hF hG).pre _
/-- Words whose letters change places where they do not touch. -/
inductive FarQ : List Int → List Int → Prop
  | refl (a : List Int) : FarQ a a
  | step {a b : Int} {u v c : List Int} (h : farI a b) (t : FarQ (u ++ b :: a :: v) c) : FarQ (u ++ a :: b :: v) c
theorem FarQ.trans {a b c : List Int} (h : FarQ a b) (t : FarQ b c) : FarQ a c := by
  induction h with
  | refl a => exact t
  | step h _ ih => exact .step h (ih t)
theorem FarQ.pre (x : List Int) {a b : List Int} (h : FarQ a b) : FarQ (x ++ a) (x ++ b) := by
  induction h with
  | refl a => exact .refl _
  | step h _ ih =>
    rw [← List.append_assoc] at ih ⊢
    exact .step h ih
theorem FarQ.post (x : List Int) {a b : List Int} (h : FarQ a b) : FarQ (a ++ x) (b ++ x) := by
  induction h with
  | refl a => exact .refl _
  | @step p q u v c h _ ih =>
    rw [List.append_assoc] at ih ⊢
    exact .step (v := v ++ x) h ih
theorem FarQ.app {a b c d : List Int} (h : FarQ a b) (k : FarQ c d) : FarQ (a ++ c) (b ++ d) := (h.post c).trans (k.pre b)
theorem FarQ.one {a b : Int} (u v : List Int) (h : farI a b) : FarQ (u ++ a :: b :: v) (u ++ b :: a :: v) := .step h (.refl _)
theorem FarQ.symm {a b : List Int} (h : FarQ a b) : FarQ b a := by
  induction h with
  | refl a => exact .refl _
  | step h _ ih => exact ih.trans (.one _ _ (apart.symm h))
theorem FarQ.perm {a b : List Int} (h : FarQ a b) : List.Perm a b := by
  induction h with
  | refl a => exact .refl _
  | @step p q u v c h _ ih => exact (List.Perm.append_left u (List.Perm.swap q p v)).trans ih
theorem FarQ.same {n : Nat} {a b : List Int} (h : FarQ a b) : ∀ {x y y' : Sg}, (∀ c ∈ a, Lt n c) → On n x.2 → Wal n x a y → Wal n x b y' → Sq n y y' := by
  induction h with
  | refl a => intro x y y' _ _ h1 h2; exact h1.same h2 (.refl _ _)
  | @step p q u v c h t ih =>
    intro x y y' hl hx h1 h2
    obtain ⟨m, m1, m2⟩ := Wal.ex u x (fun c hc => hl c (by simp [hc])) hx
    have lp := hl p (by simp)
    have lq := hl q (by simp)
    obtain ⟨s1, s2, s3⟩ := Stp.ex lp m2
    obtain ⟨s4, s5, s6⟩ := Stp.ex lq s3
    obtain ⟨t1, t2, t3⟩ := Stp.ex lq m2
    obtain ⟨t4, t5, t6⟩ := Stp.ex lp t3
    obtain ⟨r1, r2, r3⟩ := Wal.ex v s4 (fun c hc => hl c (by simp [hc])) s6
    obtain ⟨r4, r5, r6⟩ := Wal.ex v t4 (fun c hc => hl c (by simp [hc])) t6
    have e1 := r2.same r5 (Stp.far m2 h s2 s5 t2 t5)
    have e2 := h1.same (m1.app (.cons s2 (.cons s5 r2))) (.refl _ _)
    have e3 := ih (fun c hc => hl c (by simp only [List.mem_append, List.mem_cons] at hc ⊢; rcases hc with h | h | h | h <;> simp [h])) hx (m1.app (.cons t2 (.cons t5 r5))) h2
    exact (e2.trans e1).trans e3
/-- The inverse of a word. -/
def winv (w : List Int) : List Int := (w.map (fun x => -x)).reverse
theorem winv_snoc (w : List Int) (a : Int) : winv (w ++ [a]) = -a :: winv w := by simp [winv]
theorem winv_winv (w : List Int) : winv (winv w) = w := by
  unfold winv
  rw [List.map_reverse, List.reverse_reverse, List.map_map]
  have : w.map ((fun x => -x) ∘ fun x => -x) = w.map (fun x => x) := List.map_congr_left fun x _ => by simp
  rw [this, List.map_id']
theorem Lt.neg {n : Nat} {a : Int} (h : Lt n a) : Lt n (-a) := by unfold Lt at *; omega
theorem Lt.winv {n : Nat} {w : List Int} (h : ∀ a ∈ w, Lt n a) : ∀ a ∈ winv w, Lt n a := by
  intro a ha
  unfold Br.winv at ha
  rw [List.mem_reverse, List.mem_map] at ha
  obtain ⟨b, hb, rfl⟩ := ha
  exact (h b hb).neg
theorem cancels {n : Nat} (k : Nat) : ∀ (w : List Int), w.length = k → ∀ (x y : Sg), (∀ a ∈ w, Lt n a) → On n x.2 → Wal n x (w ++ winv w) y → Sq n y x := by
  induction k with
  | zero =>
    intro w hw x y _ _ h
    have : w = [] := List.eq_nil_of_length_eq_zero hw
    subst this
    cases h
    exact .refl _ _
  | succ k ih =>
    intro w hw x y hl hx h
    rcases List.eq_nil_or_concat w with rfl | ⟨v, a, rfl⟩
    · simp at hw
    · rw [List.concat_eq_append] at *
      simp only [List.length_append, List.length_cons, List.length_nil] at hw
      have hlv : ∀ c ∈ v, Lt n c := fun c hc => hl c (by simp [hc])
      have hla := hl a (by simp)
      obtain ⟨m, m1, m2⟩ := Wal.ex v x hlv hx
      obtain ⟨s1, s2, s3⟩ := Stp.ex hla m2
      obtain ⟨s4, s5, s6⟩ := Stp.ex hla.neg s3
      obtain ⟨r1, r2, r3⟩ := Wal.ex (winv v) s4 (Lt.winv hlv) s6
      obtain ⟨r4, r5, r6⟩ := Wal.ex (winv v) m (Lt.winv hlv) m2
      have e1 := r2.same r5 (Stp.back m2 s2 s5)
      have e2 := ih v (by omega) x r4 hlv hx (m1.app r5)
      have e3 := h.same (y' := r1) (x' := x) (by rw [winv_snoc, List.append_assoc]; exact m1.app (.cons s2 (.cons s5 r2))) (.refl _ _)
      exact (e3.trans e1).trans e2
theorem On.nil (n : Nat) : On n [] := fun _ h => by cases h
/-- Words that differ by letters that do not touch are equal braids. -/
theorem equal_far {n : Nat} {a b : List Int} (h : FarQ a b) (ha : ∀ c ∈ a, Lt n c) {y : Sg} (hy : Wal n (0, []) (a ++ winv b) y) : Eqv y.2 (Dp n y.1) := by
  have hb : ∀ c ∈ b, Lt n c := fun c hc => ha c ((List.Perm.mem_iff h.perm).2 hc)
  obtain ⟨z, z1, z2⟩ := Wal.ex (n := n) (b ++ winv b) (0, []) (fun c hc => by
    rcases List.mem_append.1 hc with hc | hc
    · exact hb c hc
    · exact Lt.winv hb c hc) (On.nil n)
  have e1 := (h.post (winv b)).same (n := n) (fun c hc => by
    rcases List.mem_append.1 hc with hc | hc
    · exact ha c hc
    · exact Lt.winv hb c hc) (On.nil n) hy z1
  have e2 := e1.trans (cancels _ b rfl _ _ hb (On.nil n) z1)
  unfold Sq at e2
  rw [List.append_nil] at e2
  exact e2
/-- The two ways to say that words are equal braids. -/
theorem equal_iff {n : Nat} {a b : List Int} (ha : ∀ c ∈ a, Lt n c) (hb : ∀ c ∈ b, Lt n c) {y ya yb : Sg} (hy : Wal n (0, []) (a ++ winv b) y) (h1 : Wal n (0, []) a ya) (h2 : Wal n (0, []) b yb) : Eqv y.2 (Dp n y.1) ↔ Sq n ya yb := by
  have e0 : Eqv y.2 (Dp n y.1) ↔ Sq n y (0, []) := by unfold Sq; rw [List.append_nil]; exact Iff.rfl
  rw [e0]
  obtain ⟨za, za1, za2⟩ := Wal.ex (n := n) a (0, []) ha (On.nil n)
  obtain ⟨zb, zb1, zb2⟩ := Wal.ex (n := n) b (0, []) hb (On.nil n)
  obtain ⟨z, z1, z2⟩ := Wal.ex (winv b) za (Lt.winv hb) za2
  have ey := hy.same (za1.app z1) (.refl _ _)
  have ea := h1.same za1 (.refl _ _)
  have eb := h2.same zb1 (.refl _ _)
  constructor
  · intro h
    obtain ⟨t, t1, t2⟩ := Wal.ex b z hb z2
    have g1 := t1.same zb1 (ey.symm.trans h)
    have g2 := cancels _ (winv b) rfl za t (Lt.winv hb) za2 (by rw [winv_winv]; exact z1.app t1)
    exact (ea.trans (g2.symm.trans g1)).trans eb.symm
  · intro h
    obtain ⟨t, t1, t2⟩ := Wal.ex (winv b) zb (Lt.winv hb) zb2
    have g1 := z1.same t1 ((ea.symm.trans h).trans eb)
    have g2 := cancels _ b rfl _ _ hb (On.nil n) (zb1.app t1)
    exact ey.trans (g1.trans g2)

end Go.Proofs.YtnjgmhdmjaijgaaGreat.Br

/- Normal forms of words, the given side: the factors of a word, plain; the inverse of a word; the normal form. -/
namespace Go.Proofs.YtnjgmhdmjaijgaaGreat
open Go Go.RowKit
open Br (idl halfl invl flipl sw bh dB finB lwB Pm wd prod LW Eqv Wal Stp Fl Lt Dp winv)

/-- The factors of a word, letter by letter. -/
def facN (n : Nat) (L : List (List Int)) (x : Int) : List (List Int) := if 0 < x then L ++ [bh (x.toNat - 1) (idl n)] else L.map flipl ++ [bh ((-x).toNat - 1) (halfl n)]
def facs (n : Nat) (xs : List Int) : List (List Int) := xs.foldl (facN n) []
def negs (xs : List Int) : Nat := xs.countP (fun x => decide (x < 0))
theorem facs_snoc {n i : Nat} {xs : List Int} {x : Int} (h : xs[i]? = some x) : facs n (xs.take (i + 1)) = facN n (facs n (xs.take i)) x := by
  unfold facs
  rw [take_snoc h, List.foldl_append]
  rfl
theorem negs_snoc {i : Nat} {xs : List Int} {x : Int} (h : xs[i]? = some x) : negs (xs.take (i + 1)) = negs (xs.take i) + if x < 0 then 1 else 0 := by
  unfold negs
  rw [take_snoc h, List.countP_append]
  congr 1
  by_cases hh : x < 0
  · rw [if_pos hh, List.countP_cons_of_pos (by simpa using hh)]; rfl
  · rw [if_neg hh, List.countP_cons_of_neg (by simpa using hh)]; rfl
theorem negs_le (xs : List Int) : negs xs ≤ xs.length := List.countP_le_length
theorem facN_pos {n : Nat} {L : List (List Int)} {x : Int} {j : Nat} (h : x = (j : Int) + 1) : facN n L x = L ++ [bh j (idl n)] := by
  rw [facN, if_pos (by omega), show x.toNat - 1 = j by omega]
theorem facN_neg {n : Nat} {L : List (List Int)} {x : Int} {j : Nat} (h : x = -((j : Int) + 1)) : facN n L x = L.map flipl ++ [bh j (halfl n)] := by
  rw [facN, if_neg (by omega), show (-x).toNat - 1 = j by omega]
theorem idl_ord (n k : Nat) : Br.ordK k (idl n) := (Br.idl_sorted n).imp fun h hh => by omega
theorem wd_one {n j : Nat} (h : j + 1 < n) : Eqv (wd (bh j (idl n))) [j] := by
  have := Br.wd_behind (Pm.id n) h (idl_ord n j)
  rwa [Br.wd_idl, List.nil_append] at this
theorem fl_prod {n : Nat} : ∀ (L : List (List Int)), (∀ p ∈ L, Pm n p) → Fl n (prod L) (prod (L.map flipl))
  | [], _ => .nil n
  | p :: L, h => by
    rw [List.map_cons, Br.prod_cons, Br.prod_cons]
    exact (Fl.perm (h p (by simp))).app (fl_prod L fun q hq => h q (by simp [hq]))
theorem facs_facts {n : Nat} {xs : List Int} (hx : ∀ x ∈ xs, Lt n x) (i : Nat) (hi : i ≤ xs.length) : (∀ p ∈ facs n (xs.take i), Pm n p) ∧ (facs n (xs.take i)).length = i ∧ Wal n (0, []) (xs.take i) (negs (xs.take i), prod (facs n (xs.take i))) := by
  induction i with
  | zero =>
    refine ⟨fun p hp => ?_, rfl, ?_⟩
    · rw [List.take_zero] at hp; cases hp
    · rw [List.take_zero]; exact .nil _
  | succ i ih =>
    obtain ⟨i1, i2, i3⟩ := ih (by omega)
    have hg : xs[i]? = some (xs[i]'(by omega)) := List.getElem?_eq_getElem _
    have hlt := hx _ (List.getElem_mem (show i < xs.length by omega))
    generalize xs[i]'(by omega) = x at hg hlt
    rw [facs_snoc hg, negs_snoc hg]
    obtain ⟨l1, l2, l3⟩ := hlt
    by_cases hp : 0 < x
    · obtain ⟨j, hj⟩ : ∃ j : Nat, x = (j : Int) + 1 := ⟨x.toNat - 1, by omega⟩
      rw [facN_pos hj, if_neg (by omega), Nat.add_zero]
      refine ⟨fun p hpm => ?_, by simp [i2], ?_⟩
      · rcases List.mem_append.1 hpm with hpm | hpm
        · exact i1 p hpm
        · rw [List.mem_singleton] at hpm
          rw [hpm]
          exact (Pm.id n).bh (by omega)
      · rw [take_snoc hg]
        refine i3.app (Wal.cons (y := (negs (xs.take i), prod (facs n (xs.take i) ++ [bh j (idl n)]))) (.inl ⟨hp, l3, rfl, ?_⟩) (.nil _))
        rw [Br.prod_app]
        show Eqv (_ ++ (wd (bh j (idl n)) ++ [])) _
        rw [List.append_nil, show x.toNat - 1 = j by omega]
        exact (wd_one (by omega)).pre _
    · obtain ⟨j, hj⟩ : ∃ j : Nat, x = -((j : Int) + 1) := ⟨(-x).toNat - 1, by omega⟩
      rw [facN_neg hj, if_pos (by omega)]
      refine ⟨fun p hpm => ?_, by simp [i2], ?_⟩
      · rcases List.mem_append.1 hpm with hpm | hpm
        · obtain ⟨q, hq, rfl⟩ := List.mem_map.1 hpm
          exact (i1 q hq).flip
        · rw [List.mem_singleton] at hpm
          rw [hpm]
          exact (Br.halfl_Pm n).bh (by omega)
      · rw [take_snoc hg]
        refine i3.app (Wal.cons (y := (negs (xs.take i) + 1, prod ((facs n (xs.take i)).map flipl ++ [bh j (halfl n)]))) (.inr ⟨by omega, by omega, rfl, _, fl_prod _ i1, ?_⟩) (.nil _))
        rw [Br.prod_app]
        show Eqv (_ ++ (wd (bh j (halfl n)) ++ [])) _
        rw [List.append_nil, show (-x).toNat - 1 = j by omega]
        exact .refl _
/-- Whether two words are equal braids. -/
def eqP (n : Nat) (a b : List Int) : Prop := Eqv (prod (facs n (a ++ winv b))) (Dp n (negs (a ++ winv b)))
noncomputable instance (n : Nat) (a b : List Int) : Decidable (eqP n a b) := Classical.propDecidable _
noncomputable def eqW (n : Nat) (a b : List Int) : Bool := decide (eqP n a b)
/-- How the program sees it. -/
theorem trivial_iff {n : Nat} {xs : List Int} {G : List (List Int)} (hx : ∀ x ∈ xs, Lt n x) (hp : ∀ p ∈ G, Pm n p) (hl : LW G) (he : Eqv (prod G) (prod (facs n xs))) :
    Eqv (prod (facs n xs)) (Dp n (negs xs)) ↔ (cntHalf n G = negs xs ∧ cntElse n G = 0) := by
  constructor
  · intro h
    have h1n : 1 < n ∨ negs xs = 0 := by
      cases xs with
      | nil => right; rfl
      | cons x xs => have := hx x (by simp); unfold Lt at this; left; omega
    obtain ⟨h1, h2⟩ := Br.all_half (negs xs) G hp hl (he.trans h) h1n
    constructor
    · rw [← h2]
      unfold cntHalf
      refine List.countP_congr fun p hpm => ?_
      rcases h1 p hpm with e | e
      · simp [e]
      · simp [e]
    · unfold cntElse
      rw [List.countP_eq_zero]
      intro p hpm
      rcases h1 p hpm with e | e
      · simp [e]
      · simp [e]
  · rintro ⟨h1, h2⟩
    unfold cntElse at h2
    rw [List.countP_eq_zero] at h2
    have h3 : ∀ p ∈ G, p = idl n ∨ p = halfl n := by
      intro p hpm
      have h4 := h2 p hpm
      by_cases e1 : p = idl n
      · exact .inl e1
      · by_cases e2 : p = halfl n
        · exact .inr e2
        · simp [e1, e2] at h4
    have h4 := Br.prod_half G h3
    have h5 : G.countP (fun p => decide (p ≠ idl n)) = cntHalf n G := by
      unfold cntHalf
      refine List.countP_congr fun p hpm => ?_
      rcases h3 p hpm with e | e
      · simp [e]
      · simp [e]
    rw [h5, h1] at h4
    rw [← h4]
    exact he.symm
theorem winv_take {xs : List Int} {k : Nat} {x : Int} (h : xs[k]? = some x) : winv (xs.drop (k + 1)) ++ [-x] = winv (xs.drop k) := by
  rw [drop_cons h]; simp [winv]
theorem winv_length (xs : List Int) : (winv xs).length = xs.length := by simp [winv]

set_option maxHeartbeats 1000000 in
set_option maxRecDepth 10000 in
theorem spec_l03Inverse (A : Option Addr) (c : Nat) (xs : List Int) (w : World) (h : Ints w A xs) (hl : xs.length ≤ 1000) (hs : smallB xs) :
    Calls Tryz.prog 90 #[.slice A xs.length c] w fun e w' => ∃ A' c', e = .returned (.slice A' (winv xs).length c') ∧ OwnI w' w.heap.size w'.heap.size A' c' (winv xs) ∧ Below w.heap.size w w' := by
  obtain ⟨i0, hi0, hz0, hz1, hz2⟩ := info_parts info_int64
  have j1 : IntKind.i64.wrap ((xs.length : Int) - 1) = (xs.length : Int) - 1 := IntWalk.i64_in _ ⟨by omega, by omega⟩
  go_enter Tryz.func90, Tryz.ntmps90
  go_wp2_with (fail)
  go_loopw [3, 4] (fun ov iv wr => ∃ (k : Nat) (A3 : Option Addr) (c3 : Nat), k ≤ xs.length ∧ iv = .int .i64 ((k : Int) - 1) ∧ ov = .slice A3 (xs.length - k) c3 ∧ OwnC wr w.heap.size wr.heap.size 2 1 A3 (xs.length - k) c3 ((winv (xs.drop k)).map (Value.int .i64)) ∧ Below w.heap.size w wr) (fun _ iv _ => (intOf iv + 1).toNat)
  case atStart =>
    refine ⟨xs.length, some ⟨w.heap.size, 0, none⟩, 0, Nat.le_refl _, rfl, by simp, ?_, by (repeat (first | exact Below.refl _ _ | assumption | apply Below.drew | apply below_drewN | (refine Below.alloc ?_ (by first | omega | (simp; done) | (simp; omega)) _) | (refine Below.setCell ?_ (by first | omega | (simp; done) | (simp; omega)) _)))⟩
    have := (OwnC.lit (w := w) (lo := w.heap.size) (n := 0) 2 1 #[] (Nat.le_refl _) (Nat.zero_le _) rfl).mono (Nat.le_refl _) (show w.heap.size + 1 ≤ (w.alloc (.cells #[] 2)).heap.size by simp)
    simpa [winv] using this
  case round =>
    clear j1
    obtain ⟨k, A3, c3, hk, rfl, rfl, ho, hb⟩ := hrel
    have hzs := hb.size
    by_cases hk0 : 0 < k
    · obtain ⟨m, rfl⟩ : ∃ m, k = m + 1 := ⟨k - 1, by omega⟩
      have d0 : decide ((((m + 1 : Nat) : Int) - 1) ≥ 0) = true := decide_eq_true (by omega)
      have e1 : (((m + 1 : Nat) : Int) - 1) = (m : Int) := by omega
      rw [e1] at d0 ⊢
      clear e1
      obtain ⟨b, off, x, rfl, hc, hx⟩ := (h.below hb) m (by omega)
      have hxs := hs x (List.mem_of_getElem? hx)
      have wn : IntKind.i64.wrap (-x) = -x := IntWalk.i64_in _ ⟨by omega, by omega⟩
      have HX : Hid ((winv (xs.drop m)).map (Value.int .i64) = (winv (xs.drop (m + 1))).map (Value.int .i64) ++ [.int .i64 (-x)]) := Lib.hid (by rw [← winv_take hx]; simp)
      clear hx
      have j2 : (0 : Int) ≤ (m : Int) := by omega
      have j3 : (m : Int) < (xs.length : Int) := by omega
      have j4 : IntKind.i64.wrap ((m : Int) - 1) = (m : Int) - 1 := IntWalk.i64_in _ ⟨by omega, by omega⟩
      have hn : xs.length - (m + 1) + 1 = xs.length - m := by omega
      have HN := Lib.hid hn; clear hn
      generalize hq : xs.length - (m + 1) = q at *
      have hq1 : q ≤ 1000000 := by omega
      have HQ := Lib.hid hq; clear hq
      go_wp2_with (at_builtin; refine wpList_append1 wr [.int .i64 (-x)] _ rfl (.tmp 13) (.tmp 19) _ rfl 2 i0 _ 1 8 Tryz.underlying36 hi0 hz0 hz1 hz2 rfl (by decide) rfl ho hzs 1 rfl rfl (by simp [Value.oneCell']) (by omega) (by decide) ?_; intro A2 c2 w3 ho2 hg2 hb3 hz2')
      refine ⟨⟨m, A2, c2, by omega, rfl, by rw [HN.out], ?_, hb.trans hb3⟩, by simp [intOf]⟩
      rw [HX.out, ← HN.out]
      exact ho2
    · obtain rfl : k = 0 := by omega
      have d0 : decide ((((0 : Nat) : Int) - 1) ≥ 0) = false := by decide
      go_wp2_with (fail)
      go_ret
      refine ⟨A3, c3, by rw [winv_length]; rfl, ?_, hb⟩
      show OwnC _ _ _ _ _ _ _ _ _
      rw [winv_length]
      exact ho

theorem PRows.box {w : World} {lo n m c : Nat} {A : Option Addr} {F : List (List Int)} {g : Nat} {t : TypeId} {bs : Array Value} (h : PRows w lo n A m c F) (hb : Blk w g t bs) (t1 : t ≠ 2) (t2 : t ≠ 36) (j : Nat) (u : Value) : PRows (w.setCell ⟨g, j, none⟩ u) lo n A m c F := by
  obtain ⟨cs, h1, h2⟩ := h
  exact ⟨cs, (h1.farT hb t2 j u).mono (Nat.le_refl _) (by simp), h2.keepC (by simp) fun _ _ _ ho => ho.farT hb t1 j u⟩
set_option maxHeartbeats 8000000 in
set_option maxRecDepth 10000 in
theorem spec_l04Normal (n : Nat) (xs : List Int) (A : Option Addr) (c : Nat) (w : World) (h : Ints w A xs) (hx : ∀ x ∈ xs, Lt n x) (hn : n ≤ 12) (hl : xs.length ≤ 100) :
    Calls Tryz.prog 88 #[.int .i64 (n : Int), .slice A xs.length c] w fun e w' => ∃ (G : List (List Int)) (A' : Option Addr) (c' : Nat), e = .returned (.agg #[.int .i64 (n : Int), .int .i64 ((cntHalf n G : Int) - (negs xs : Int)), .slice A' (cntElse n G) c']) ∧ (∀ p ∈ G, Pm n p) ∧ LW G ∧ Eqv (prod G) (prod (facs n xs)) ∧ Below w.heap.size w w' := by
  obtain ⟨i1, hi1, hz1, hz2, hz3⟩ := info_parts info_intsI
  have t1 : (114 : TypeId) ≠ 2 := by decide
  have t2 : (114 : TypeId) ≠ 36 := by decide
  have HX := Lib.hid hx; clear hx
  obtain ⟨w1, hw1⟩ : ∃ w1, w1 = (w.alloc (.cells #[.int .i64 0, .int .i64 0, .slice none 0 0] 114)).alloc (.cells #[.int .i64 (n : Int), .int .i64 0, .slice none 0 0] 114) := ⟨_, rfl⟩
  have kz1 : Blk w1 w.heap.size 114 #[.int .i64 0, .int .i64 0, .slice none 0 0] := by rw [hw1]; exact (Blk.new w _ _).alloc _
  have kx1 : Blk w1 (w.heap.size + 1) 114 #[.int .i64 (n : Int), .int .i64 0, .slice none 0 0] := by rw [hw1]; simpa using Blk.new (w.alloc (.cells #[.int .i64 0, .int .i64 0, .slice none 0 0] 114)) 114 #[.int .i64 (n : Int), .int .i64 0, .slice none 0 0]
  have hb1 : Below w.heap.size w w1 := by rw [hw1]; (repeat (first | exact Below.refl _ _ | assumption | apply Below.drew | apply below_drewN | (refine Below.alloc ?_ (by first | omega | (simp; done) | (simp; omega)) _) | (refine Below.setCell ?_ (by first | omega | (simp; done) | (simp; omega)) _)))
  have hz1' : w1.heap.size = w.heap.size + 2 := by rw [hw1]; simp
  obtain ⟨gX, hgX⟩ : ∃ gX, gX = w.heap.size + 1 := ⟨_, rfl⟩
  rw [← hgX] at kx1
  have hlo : gX + 1 ≤ w1.heap.size ∧ w.heap.size < gX := by omega
  go_enter Tryz.func88, Tryz.ntmps88
  go_upto_region 2 with fail
  rw [← hw1, ← hgX]
  clear hw1 hgX hz1'
  go_wp2_with (fail)
  go_loopw [6, 7] (fun ov iv wr => ∃ (i : Nat) (y : Int) (A3 : Option Addr) (c3 : Nat), i ≤ xs.length ∧ iv = .int .i64 (i : Int) ∧ ov = .slice A3 i c3 ∧ Hid (y = -(negs (xs.take i) : Int)) ∧ (-(i : Int) ≤ y ∧ y ≤ 0) ∧ Blk wr w.heap.size 114 #[.int .i64 0, .int .i64 0, .slice none 0 0] ∧ Blk wr gX 114 #[.int .i64 (n : Int), .int .i64 y, .slice none 0 0] ∧ PRows wr (gX + 1) n A3 i c3 (facs n (xs.take i)) ∧ Below w.heap.size w wr ∧ gX + 1 ≤ wr.heap.size) (fun _ iv _ => xs.length - (intOf iv).toNat)
  case atStart =>
    refine ⟨0, 0, some ⟨w1.heap.size, 0, none⟩, 0, Nat.zero_le _, rfl, rfl, Lib.hid rfl, ⟨by simp, Int.le_refl _⟩, kz1.alloc _, kx1.alloc _, ⟨[], ?_, CR.nil⟩, hb1.alloc hb1.size _, by simp; omega⟩
    exact (OwnC.lit (w := w1) (lo := gX + 1) (n := 0) 36 1 #[] hlo.1 (Nat.zero_le _) rfl).mono (Nat.le_refl _) (by simp)
  case round =>
    have hzX := hlo.2
    clear kz1 kx1 hb1 hlo
    obtain ⟨i, y, A3, c3, hi, rfl, rfl, HY, hyi, kz, kx, hP, hb, hz⟩ := hrel
    have hzg := kz.lt
    have hzx := kx.lt
    have hzs := hb.size
    by_cases hil : i < xs.length
    · have di : decide ((i : Int) < (xs.length : Int)) = true := decide_eq_true (by omega)
      obtain ⟨b, off, x, rfl, hc, hx⟩ := (h.below hb) i hil
      have hlt := HX.out x (List.mem_of_getElem? hx)
      unfold Lt at hlt
      obtain ⟨ff1, ff2, _⟩ := facs_facts (n := n) HX.out i hi
      have HF1 := Lib.hid ff1; have HF2 := Lib.hid ff2
      have hfs := facs_snoc (n := n) hx
      have hns := negs_snoc hx
      have j1 : (0 : Int) ≤ (i : Int) := by omega
      have j2 : (i : Int) < (xs.length : Int) := by omega
      have hxs : -1000 ≤ x ∧ x ≤ 1000 := by omega
      have HXS := Lib.hid hxs
      clear hxs ff1 ff2 hx
      by_cases hp : 0 < x
      · obtain ⟨j, hj⟩ : ∃ j : Nat, x = (j : Int) + 1 := ⟨x.toNat - 1, by omega⟩
        have dp : decide (x > 0) = true := decide_eq_true hp
        have HFS : Hid (facs n (xs.take (i + 1)) = facs n (xs.take i) ++ [bh j (idl n)]) := Lib.hid (by rw [hfs, facN_pos hj])
        have HNS : Hid (y = -(negs (xs.take (i + 1)) : Int)) := Lib.hid (by rw [hns, if_neg (by omega), Nat.add_zero]; exact HY.out)
        have HAB : Hid (absI x = (j : Int) + 1) := Lib.hid (by unfold absI; split <;> omega)
        have HPB := Lib.hid ((Pm.id n).bh (k := j) (by omega))
        have jn : j ≤ 1000 := by omega
        clear hfs hns hj hp hlt
        go_wp2_with (go_at_call 129; refine (spec_l03Abs _ _ HXS.out).mono ?_; rintro e _ ⟨rfl, rfl⟩; rw [HAB.out])
        refine (spec_l04Identity n wr (by omega)).mono ?_; rintro e w2 ⟨A4, c4, rfl, o4, b4⟩
        go_wp2_with (fail)
        refine (spec_l04Behind n j (idl n) A4 c4 w2 (OwnC.ints o4) (Br.idl_length n) jn (by omega)).mono ?_; rintro e w3 ⟨A5, c5, rfl, o5, b5⟩
        have b45 : Below wr.heap.size wr w3 := b4.trans (b5.mono b4.size)
        obtain ⟨cs, ho, hcr⟩ := hP.below b45
        have kz3 := kz.below b45 kz.lt
        have kx3 := kx.below b45 kx.lt
        have hz3' : gX + 1 ≤ w3.heap.size := Nat.le_trans hz b45.size
        have hb3 : Below w.heap.size w w3 := hb.trans (b45.mono hzs)
        have hgz : w.heap.size < gX + 1 := by omega
        have HGZ := Lib.hid hgz
        clear b4 b5 b45 o4 hP hb kz kx hz hzs hzg hzx hc hgz
        go_wp2_with (at_builtin; refine wpList_append1 w3 [.slice A5 n c5] _ rfl (.tmp 30) (.tmp 35) _ rfl 36 i1 _ 1 24 Tryz.underlying46 hi1 hz1 hz2 hz3 rfl (by decide) rfl ho hz3' 1 rfl rfl (by simp [Value.oneCell']) (by omega) (by decide) ?_; intro A9 c9 w8 ho8 hg8 hb8 hz8)
        have hb8' : Below w.heap.size w w8 := hb3.trans (hb8.mono (by have := HGZ.out; omega))
        have ho3 := OwnC.alloc ho (.cells #[.slice A5 n c5] 36)
        refine ⟨⟨i + 1, y, A9, c9, by omega, by go_num, rfl, HNS, by omega, (kz3.alloc _).grownT ho3 t2 hg8, (kx3.alloc _).grownT ho3 t2 hg8, ?_, hb8', by omega⟩, by simp [intOf]; omega⟩
        rw [HFS.out]
        exact PRows.push ho hcr (OwnC.mono o5 (Nat.zero_le _) (Nat.le_refl _)) HPB.out.len ho8 hg8
      · obtain ⟨j, hj⟩ : ∃ j : Nat, x = -((j : Int) + 1) := ⟨(-x).toNat - 1, by omega⟩
        have dp : decide (x > 0) = false := decide_eq_false hp
        have HFS : Hid (facs n (xs.take (i + 1)) = (facs n (xs.take i)).map flipl ++ [bh j (halfl n)]) := Lib.hid (by rw [hfs, facN_neg hj])
        have HNS : Hid (y - 1 = -(negs (xs.take (i + 1)) : Int)) := Lib.hid (by rw [hns, if_pos (by omega), HY.out]; omega)
        have HAB : Hid (absI x = (j : Int) + 1) := Lib.hid (by unfold absI; split <;> omega)
        have HPB := Lib.hid ((Br.halfl_Pm n).bh (k := j) (by omega))
        have jn : j ≤ 1000 := by omega
        have wy : IntKind.i64.wrap (y - 1) = y - 1 := IntWalk.i64_in _ ⟨by omega, by omega⟩
        obtain ⟨p0, p1, p2⟩ := kx.c3
        have fr1 := kx.frozen 1
        clear hfs hns hj hp hlt
        go_upto_region 10 with (go_at_call 129; refine (spec_l03Abs _ _ HXS.out).mono ?_; rintro e _ ⟨rfl, rfl⟩; rw [HAB.out])
        have kx2 := kx.set31 (.int .i64 (y - 1))
        have kz2 := kz.far (p := ⟨gX, 1, none⟩) (by show w.heap.size ≠ gX; omega) (.int .i64 (y - 1))
        have P2 := hP.box kx t1 t2 1 (.int .i64 (y - 1))
        have hb2 : Below w.heap.size w (wr.setCell ⟨gX, 1, none⟩ (.int .i64 (y - 1))) := hb.setCell (by show w.heap.size ≤ gX; omega) _
        have hz2' : gX + 1 ≤ (wr.setCell ⟨gX, 1, none⟩ (.int .i64 (y - 1))).heap.size := by simpa using hz
        obtain ⟨wq, hwq⟩ : ∃ wq, wq = wr.setCell ⟨gX, 1, none⟩ (.int .i64 (y - 1)) := ⟨_, rfl⟩
        rw [← hwq] at kx2 kz2 P2 hb2 hz2' ⊢
        clear hwq hP kx kz hb hz hzs hzg hzx hc p0 p1 p2 fr1
        have hi100 : i ≤ 1000 := by omega
        go_wp2_with (fail)
        refine (spec_l04FlipAll n i (gX + 1) (facs n (xs.take i)) A3 c3 wq P2 HF1.out (by omega) hi100).mono ?_; rintro e w2 ⟨A4, c4, rfl, P4, b4⟩
        go_wp2_with (fail)
        refine (spec_l04Half n w2 (by omega)).mono ?_; rintro e w3 ⟨A5, c5, rfl, o5, b5⟩
        go_wp2_with (fail)
        refine (spec_l04Behind n j (halfl n) A5 c5 w3 (OwnC.ints o5) (Br.halfl_length n) jn (by omega)).mono ?_; rintro e w4 ⟨A6, c6, rfl, o6, b6⟩
        have b56 : Below w2.heap.size w2 w4 := b5.trans (b6.mono b5.size)
        have b46 : Below wq.heap.size wq w4 := b4.trans (b56.mono b4.size)
        obtain ⟨cs, ho', hcr⟩ := P4.below b56
        have ho : OwnC w4 (gX + 1) w4.heap.size 36 1 A4 i c4 cs := ho'.mono hz2' (Nat.le_refl _)
        have kz3 := kz2.below b46 kz2.lt
        have kx3 := kx2.below b46 kx2.lt
        have hz3' : gX + 1 ≤ w4.heap.size := Nat.le_trans hz2' b46.size
        have hb3 : Below w.heap.size w w4 := hb2.trans (b46.mono hb2.size)
        have HGZ := Lib.hid (show w.heap.size < gX + 1 by omega)
        clear b4 b5 b6 b56 b46 o5 P2 P4 hb2 kz2 kx2 hz2' ho'
        go_wp2_with (at_builtin; refine wpList_append1 w4 [.slice A6 n c6] _ rfl (.tmp 42) (.tmp 47) _ rfl 36 i1 _ 1 24 Tryz.underlying46 hi1 hz1 hz2 hz3 rfl (by decide) rfl ho hz3' 1 rfl rfl (by simp [Value.oneCell']) (by omega) (by decide) ?_; intro A9 c9 w8 ho8 hg8 hb8 hz8)
        have hb8' : Below w.heap.size w w8 := hb3.trans (hb8.mono (by have := HGZ.out; omega))
        have ho3 := OwnC.alloc ho (.cells #[.slice A6 n c6] 36)
        refine ⟨⟨i + 1, y - 1, A9, c9, by omega, by go_num, rfl, HNS, by omega, (kz3.alloc _).grownT ho3 t2 hg8, (kx3.alloc _).grownT ho3 t2 hg8, ?_, hb8', by omega⟩, by simp [intOf]; omega⟩
        rw [HFS.out]
        exact PRows.push ho hcr (OwnC.mono o6 (Nat.zero_le _) (Nat.le_refl _)) HPB.out.len ho8 hg8
    · obtain rfl : i = xs.length := by omega
      have di : decide ((xs.length : Int) < (xs.length : Int)) = false := decide_eq_false (by omega)
      rw [take_all (Nat.le_refl _)] at hP
      have hyy := HY.out
      rw [take_all (Nat.le_refl _)] at hyy
      have HYY := Lib.hid hyy; clear hyy HY
      obtain ⟨ff1, ff2, _⟩ := facs_facts (n := n) HX.out xs.length (Nat.le_refl _)
      rw [take_all (Nat.le_refl _)] at ff1 ff2
      have HF1 := Lib.hid ff1; have HF2 := Lib.hid ff2; clear ff1 ff2
      go_wp2_with (fail)
      refine (spec_l04Settle n xs.length (gX + 1) (facs n xs) A3 c3 wr hP HF1.out (by omega) (by omega)).mono ?_
      rintro e w2 ⟨G, A4, c4, rfl, g1, g2, g3, g4, b4⟩
      have hch := cntHalf_le n G
      have hce := cntElse_le n G
      rw [g4, HF2.out] at hch hce
      have HG1 := Lib.hid g1; have HG2 := Lib.hid g2; have HG3 := Lib.hid g3
      have kz2 := kz.below b4 kz.lt
      have kx2 := kx.below b4 kx.lt
      have hb2 : Below w.heap.size w w2 := hb.trans (b4.mono hzs)
      clear g1 g2 g3 g4 kz kx hb hP b4 hzg hzx hzs
      obtain ⟨p0, p1, p2⟩ := kx2.c3
      have fr1 := kx2.frozen 1
      have fr2 := kx2.frozen 2
      obtain ⟨r0, r1, r2⟩ := kz2.c3
      have fz0 := kz2.frozen 0
      have fz1 := kz2.frozen 1
      have fz2 := kz2.frozen 2
      generalize hH : cntHalf n G = H at *
      generalize hE : cntElse n G = E at *
      have HHH := Lib.hid hH; have HEE := Lib.hid hE; clear hH hE
      have ws : IntKind.i64.wrap (y + (H : Int)) = y + (H : Int) := IntWalk.i64_in _ ⟨by omega, by omega⟩
      have hne : ¬ w.heap.size = gX := by omega
      have hne2 : ¬ gX = w.heap.size := by omega
      go_wp2_with (fail)
      have kz3 := (kz2.far (p := ⟨gX, 1, none⟩) hne (.int .i64 (y + (H : Int)))).far (p := ⟨gX, 2, none⟩) hne (.slice A4 E c4)
      have k1 := kz3.set30 (.int .i64 (n : Int))
      have k2 := k1.set31 (.int .i64 (y + (H : Int)))
      have k3 := k2.set32 (.slice A4 E c4)
      obtain ⟨r0, r1, r2⟩ := k3.c3
      refine bodyPost_ret (v := .agg #[.int .i64 (n : Int), .int .i64 (y + (H : Int)), .slice A4 E c4]) (by simp [results, Tryz.results88, go_sem, r0, r1, r2]) rfl ⟨G, A4, c4, ?_, HG1.out, HG2.out, HG3.out, ?_⟩
      · rw [HHH.out, HEE.out, show y + (H : Int) = (H : Int) - (negs xs : Int) by have := HYY.out; omega]
      · have hg : w.heap.size ≤ gX := by omega
        exact ((((hb2.setCell (by show w.heap.size ≤ gX; omega) _).setCell (by show w.heap.size ≤ gX; omega) _).setCell (Nat.le_refl _) _).setCell (Nat.le_refl _) _).setCell (Nat.le_refl _) _

theorem eqW_of {n : Nat} {a b : List Int} {G : List (List Int)} (hx : ∀ x ∈ a ++ winv b, Lt n x) (hp : ∀ p ∈ G, Pm n p) (hl : LW G) (he : Eqv (prod G) (prod (facs n (a ++ winv b)))) : eqW n a b = (decide ((cntHalf n G : Int) - (negs (a ++ winv b) : Int) = 0) && decide (cntElse n G = 0)) := by
  have h1 := trivial_iff hx hp hl he
  unfold eqW
  by_cases h2 : eqP n a b
  · obtain ⟨h3, h4⟩ := h1.1 h2
    rw [decide_eq_true h2, decide_eq_true (by omega), decide_eq_true h4]; rfl
  · rw [decide_eq_false h2]
    have h3 : ¬ (cntHalf n G = negs (a ++ winv b) ∧ cntElse n G = 0) := fun hh => h2 (h1.2 hh)
    by_cases h4 : cntElse n G = 0
    · rw [decide_eq_false (by intro h5; exact h3 ⟨by omega, h4⟩), Bool.false_and]
    · rw [decide_eq_false h4, Bool.and_false]
theorem lt_small {n : Nat} {xs : List Int} (h : ∀ x ∈ xs, Lt n x) (hn : n ≤ 12) : smallB xs := fun x hx => by have := h x hx; unfold Lt at this; omega
set_option maxHeartbeats 2000000 in
set_option maxRecDepth 10000 in
theorem spec_l04Equal (n : Nat) (a b : List Int) (A B : Option Addr) (c d : Nat) (w : World) (h : Ints w A a) (h' : Ints w B b) (ha : ∀ x ∈ a, Lt n x) (hb : ∀ x ∈ b, Lt n x) (hn : n ≤ 12) (hla : a.length ≤ 40) (hlb : b.length ≤ 40) :
    Calls Tryz.prog 48 #[.int .i64 (n : Int), .slice A a.length c, .slice B b.length d] w fun e w' => e = .returned (.bool (eqW n a b)) ∧ Below w.heap.size w w' := by
  obtain ⟨i0, hi0, hz0, hz1, hz2⟩ := info_parts info_int64
  have hx : ∀ x ∈ a ++ winv b, Lt n x := fun x hx => by
    rcases List.mem_append.1 hx with hx | hx
    · exact ha x hx
    · exact Lt.winv hb x hx
  have hwl := winv_length b
  have HX := Lib.hid hx; clear hx
  have HS := Lib.hid (lt_small hb hn)
  have HEQ : Hid (∀ G, (∀ p ∈ G, Pm n p) → LW G → Eqv (prod G) (prod (facs n (a ++ winv b))) → eqW n a b = (decide ((cntHalf n G : Int) - (negs (a ++ winv b) : Int) = 0) && decide (cntElse n G = 0))) := Lib.hid (fun G h1 h2 h3 => eqW_of HX.out h1 h2 h3)
  clear ha hb
  go_enter Tryz.func48, Tryz.ntmps48
  go_wp2_with (fail)
  refine (spec_l00Own A c a w h (by omega)).mono ?_; rintro e w1 ⟨A1, c1, rfl, o1, b1⟩
  go_wp2_with (fail)
  refine (spec_l03Inverse B d b w1 (h'.below b1) (by omega) HS.out).mono ?_; rintro e w2 ⟨A2, c2, rfl, o2, b2⟩
  have o12 := OwnC.below o1 b2 (Nat.le_refl _)
  have hz2' : w.heap.size ≤ w2.heap.size := Nat.le_trans b1.size b2.size
  have B2 : Below w.heap.size w w2 := b1.trans (b2.mono b1.size)
  have hwl2 : (winv b).length ≤ 40 := by omega
  clear o1 b1 b2 hwl
  generalize winv b = v at *
  go_wp2_with (at_builtin; refine wpList_appendC w2 rfl (.tmp 10) (.tmp 12) _ rfl 2 i0 _ 1 8 Tryz.underlying36 hi0 hz0 hz1 hz2 rfl (by decide) rfl o12 hz2' A2 v.length c2 (v.map (Value.int .i64)) rfl (by simp) (OwnC.news o2) (ints_one _) (by unfold maxLen; omega) (by omega) ?_; intro A3 c3 w3 ho3 hg3 hb3)
  have iv : Ints w3 A3 (a ++ v) := OwnC.ints (by rw [List.map_append]; exact ho3)
  have B3 : Below w.heap.size w w3 := B2.trans hb3
  have HC := spec_l04Normal n (a ++ v) A3 c3 w3 iv HX.out hn (by rw [List.length_append]; omega)
  rw [List.length_append] at HC
  refine HC.mono ?_
  rintro e w4 ⟨G, A4, c4, rfl, g1, g2, g3, b4⟩
  have B4 : Below w.heap.size w w4 := B3.trans (b4.mono B3.size)
  have HG := Lib.hid (HEQ.out G g1 g2 g3)
  clear HC g1 g2 g3 b4 B3 B2 ho3 o12 o2 iv hg3 hb3 HX HEQ
  obtain ⟨P, hP⟩ : ∃ P, P = (cntHalf n G : Int) - (negs (a ++ v) : Int) := ⟨_, rfl⟩
  rw [← hP] at HG ⊢
  clear hP
  generalize cntElse n G = E at *
  have B5 : Below w.heap.size w (w4.alloc (.cells #[.int .i64 (n : Int), .int .i64 P, .slice A4 E c4] 114)) := B4.alloc B4.size _
  by_cases h1 : P = 0
  · have e1 : (P == 0) = true := by rw [h1]; rfl
    by_cases h2 : E = 0
    · have e2 : ((E : Int) == 0) = true := by rw [h2]; rfl
      have HT : Hid (eqW n a b = true) := Lib.hid (by rw [HG.out, decide_eq_true h1, decide_eq_true h2]; rfl)
      clear h1 h2 HG
      go_wp2_with (fail)
      go_ret
      exact ⟨by rw [HT.out]; rfl, B5⟩
    · have e2 : ((E : Int) == 0) = false := by rw [beq_eq_false_iff_ne]; omega
      have HT : Hid (eqW n a b = false) := Lib.hid (by rw [HG.out, decide_eq_false h2, Bool.and_false])
      clear h1 h2 HG
      go_wp2_with (fail)
      go_ret
      exact ⟨by rw [HT.out]; rfl, B5⟩
  · have e1 : (P == 0) = false := by rw [beq_eq_false_iff_ne]; exact h1
    have HT : Hid (eqW n a b = false) := Lib.hid (by rw [HG.out, decide_eq_false h1, Bool.false_and])
    clear h1 HG
    go_wp2_with (fail)
    go_ret
    exact ⟨by rw [HT.out]; rfl, B5⟩

theorem lt_braid {n : Nat} {xs : List Int} (h : braidB n xs = true) : ∀ x ∈ xs, Lt n x := fun x hx => by
  obtain ⟨_, _, _, h4⟩ := braidB_of h
  have := h4 x hx
  unfold Lt
  omega
set_option maxHeartbeats 2000000 in
set_option maxRecDepth 10000 in
theorem spec_EqualBraids (n : Nat) (a b : List Int) (A B : Option Addr) (c d : Nat) (w : World) (h : Ints w A a) (h' : Ints w B b) (ha : braidB n a = true) (hb : braidB n b = true) :
    Calls Tryz.prog 18 #[.agg #[.int .i64 (n : Int), .slice A a.length c], .agg #[.int .i64 (n : Int), .slice B b.length d]] w fun e w' => e = .returned (.bool (eqW n a b)) ∧ Below w.heap.size w w' := by
  obtain ⟨a1, a2, a3, _⟩ := braidB_of ha
  obtain ⟨_, _, b3, _⟩ := braidB_of hb
  have HLA := Lib.hid (lt_braid ha)
  have HLB := Lib.hid (lt_braid hb)
  obtain ⟨w1, hw1⟩ : ∃ w1, w1 = (w.alloc (.cells #[.int .i64 (n : Int), .slice A a.length c] 38)).alloc (.cells #[.int .i64 (n : Int), .slice B b.length d] 38) := ⟨_, rfl⟩
  have ka : Blk w1 w.heap.size 38 #[.int .i64 (n : Int), .slice A a.length c] := by rw [hw1]; exact (Blk.new w _ _).alloc _
  have kb : Blk w1 (w.heap.size + 1) 38 #[.int .i64 (n : Int), .slice B b.length d] := by rw [hw1]; simpa using Blk.new (w.alloc (.cells #[.int .i64 (n : Int), .slice A a.length c] 38)) 38 #[.int .i64 (n : Int), .slice B b.length d]
  have hb1 : Below w.heap.size w w1 := by rw [hw1]; (repeat (first | exact Below.refl _ _ | assumption | apply Below.drew | apply below_drewN | (refine Below.alloc ?_ (by first | omega | (simp; done) | (simp; omega)) _) | (refine Below.setCell ?_ (by first | omega | (simp; done) | (simp; omega)) _)))
  obtain ⟨gX, hgX⟩ : ∃ gX, gX = w.heap.size + 1 := ⟨_, rfl⟩
  rw [← hgX] at kb
  have ia := h.below hb1
  have ib := h'.below hb1
  have HA := Lib.hid ha; have HB := Lib.hid hb
  clear ha hb
  have enn : ((n : Int) == (n : Int)) = true := by simp
  go_enter Tryz.func18, Tryz.ntmps18
  go_upto_region 1 with fail
  rw [← hw1, ← hgX]
  clear hw1 hgX
  have qa := ka.c2
  have qb := kb.c2
  go_wp2_with (fail)
  refine (spec_l03Ok _ _ (n : Int) A c a w1 ia (by omega) qa.1 qa.2).mono ?_; rintro e w2 ⟨rfl, k2, rfl⟩
  rw [HA.out]
  have ka2 := ka.drewN k2
  have kb2 := kb.drewN k2
  have qa2 := ka2.c2
  have qb2 := kb2.c2
  go_wp2_with (fail)
  refine (spec_l03Ok _ _ (n : Int) B d b (w1.drewN k2) (ib.drewN k2) (by omega) qb2.1 qb2.2).mono ?_; rintro e w3 ⟨rfl, k3, rfl⟩
  rw [HB.out]
  have ka3 := ka2.drewN k3
  have kb3 := kb2.drewN k3
  have qa3 := ka3.c2
  have qb3 := kb3.c2
  have ia3 := (ia.drewN k2).drewN k3
  have ib3 := (ib.drewN k2).drewN k3
  have hb3 := below_drewN (below_drewN hb1 k2) k3
  generalize (w1.drewN k2).drewN k3 = W at *
  go_wp2_with (fail)
  refine (spec_l04Equal n a b A B c d W ia3 ib3 HLA.out HLB.out (by omega) a3 b3).mono ?_; rintro e w4 ⟨rfl, b4⟩
  go_wp2_with (fail)
  go_ret
  exact ⟨rfl, hb3.trans (b4.mono hb3.size)⟩

end Go.Proofs.YtnjgmhdmjaijgaaGreat
