/- Steps of the proof, joined from several texts: NP NS NM EA EB GF. -/
import Derived.Test.YthjamohaeahipaaGreatZ5
import Derived.Test.YthjamohaeahipaaGreatZ2
import Derived.Test.YthjamohaeahipaaGreatZ4
import Derived.Deep.RegionLaw
import Derived.Test.YthjamohaeahipaaGreatZ3
import Derived.RegionTactic
import Derived.Test.YthjamohaeahipaaGreatZ9
import Derived.Deep.DeepCutAuto
import Derived.Test.YthjamohaeahipaaGreatZ10

/- NeedOf: the plain functions. -/
namespace Go.Proofs.YthjamohaeahipaaGreat
open Go.RowKit

def sumP (cnt : Bool) : List PieceD → Int → Int
  | [], acc => acc
  | p :: r, acc =>
    if p.kind = 12 then sumP cnt (r.drop p.len.toNat) (wrap64 (acc + wrap64 (p.times * sumP cnt (r.take p.len.toNat) 0)))
    else sumP cnt r (wrap64 (acc + (if cnt then p.times else wrap64 (p.times * takenB p.kind))))
termination_by l => l.length
decreasing_by all_goals (simp; try omega)
def openP (cnt : Bool) : List PieceD → Int → Int
  | [], o => o
  | p :: r, o => if p.kind = 12 then openP cnt (r.drop p.len.toNat) (if p.times = 0 then sumP cnt (r.take p.len.toNat) 0 else o) else openP cnt r o
termination_by l => l.length
decreasing_by all_goals (simp; try omega)
def openPart : List PieceD → List PieceD
  | [] => []
  | p :: r => if p.kind = 12 ∧ p.times = 0 then r.take p.len.toNat else openPart r
abbrev Good (d : Nat) (l : List PieceD) : Prop := (rangeP d l).isSome = true
theorem sumP_nil (cnt : Bool) (acc : Int) : sumP cnt [] acc = acc := by rw [sumP]
theorem sumP_group {cnt : Bool} {p : PieceD} {r : List PieceD} (h : p.kind = 12) (acc : Int) : sumP cnt (p :: r) acc = sumP cnt (r.drop p.len.toNat) (wrap64 (acc + wrap64 (p.times * sumP cnt (r.take p.len.toNat) 0))) := by rw [sumP, if_pos h]
theorem sumP_plain {cnt : Bool} {p : PieceD} {r : List PieceD} (h : p.kind ≠ 12) (acc : Int) : sumP cnt (p :: r) acc = sumP cnt r (wrap64 (acc + (if cnt then p.times else wrap64 (p.times * takenB p.kind)))) := by rw [sumP, if_neg h]
theorem openP_nil (cnt : Bool) (o : Int) : openP cnt [] o = o := by rw [openP]
theorem openP_group {cnt : Bool} {p : PieceD} {r : List PieceD} (h : p.kind = 12) (o : Int) : openP cnt (p :: r) o = openP cnt (r.drop p.len.toNat) (if p.times = 0 then sumP cnt (r.take p.len.toNat) 0 else o) := by rw [openP, if_pos h]
theorem openP_plain {cnt : Bool} {p : PieceD} {r : List PieceD} (h : p.kind ≠ 12) (o : Int) : openP cnt (p :: r) o = openP cnt r o := by rw [openP, if_neg h]
theorem good_plain {d : Nat} {p : PieceD} {r : List PieceD} (h : Good d (p :: r)) (hk : p.kind ≠ 12) : plainP p = true ∧ Good d r := by
  unfold Good at h
  rw [rangeP, if_neg hk] at h
  split at h
  · exact ⟨by assumption, h⟩
  · cases h
theorem good_group {d : Nat} {p : PieceD} {r : List PieceD} (h : Good d (p :: r)) (hk : p.kind = 12) : d < 3 ∧ 1 ≤ p.len ∧ p.len ≤ r.length ∧ 0 ≤ p.times ∧ p.times ≤ 16 ∧ (0 < d → p.times ≠ 0) ∧ Good (d + 1) (r.take p.len.toNat) ∧ Good d (r.drop p.len.toNat) := by
  unfold Good at h ⊢
  rw [rangeP, if_pos hk] at h
  split at h
  · rename_i hg
    have h2 := hg.2
    unfold groupP at h2
    simp only [Bool.and_eq_true, Bool.not_eq_true', Bool.and_eq_false_iff, decide_eq_false_iff_not] at h2
    have h3 := inR_iff.1 h2.1.1
    have h4 := inR_iff.1 h2.2
    split at h
    · cases h
    · rename_i e
      rw [Option.isSome_map] at h
      exact ⟨hg.1, h4.1, h4.2, h3.1, h3.2, fun hd ht => by rcases h2.1.2 with h5 | h5 <;> omega, by rw [e]; rfl, h⟩
  · cases h
theorem good_deep (n d : Nat) (hd : 0 < d) : ∀ l : List PieceD, l.length ≤ n → Good d l → ∀ p ∈ l, ¬ (p.kind = 12 ∧ p.times = 0) := by
  induction n generalizing d with
  | zero => intro l hl _ p hp; have : l = [] := by cases l <;> simp_all
            subst this; simp at hp
  | succ n ih =>
    intro l hl h p hp
    cases l with
    | nil => simp at hp
    | cons q r =>
      simp only [List.length_cons] at hl
      by_cases hk : q.kind = 12
      · obtain ⟨_, h1, h2, _, _, h3, h4, h5⟩ := good_group h hk
        rcases List.mem_cons.1 hp with rfl | hp
        · exact fun e => h3 hd e.2
        · rw [← List.take_append_drop q.len.toNat r] at hp
          rcases List.mem_append.1 hp with hp | hp
          · exact ih (d + 1) (by omega) _ (by simp; omega) h4 p hp
          · exact ih d hd _ (by simp; omega) h5 p hp
      · rcases List.mem_cons.1 hp with rfl | hp
        · exact fun e => hk e.1
        · exact ih d hd _ (by omega) (good_plain h hk).2 p hp
theorem openPart_skip {a b : List PieceD} (h : ∀ p ∈ a, ¬ (p.kind = 12 ∧ p.times = 0)) : openPart (a ++ b) = openPart b := by
  induction a with
  | nil => rfl
  | cons p a ih =>
    rw [List.cons_append, openPart, if_neg (h p (by simp)), ih fun q hq => h q (by simp [hq])]
theorem openP_zero (cnt : Bool) (d n : Nat) : ∀ (l : List PieceD) (o : Int), l.length ≤ n → rangeP d l = some 0 → openP cnt l o = o := by
  induction n with
  | zero => intro l o hl _; have : l = [] := by cases l <;> simp_all
            subst this; exact openP_nil _ _
  | succ n ih =>
    intro l o hl h
    cases l with
    | nil => exact openP_nil _ _
    | cons p r =>
      simp only [List.length_cons] at hl
      by_cases hk : p.kind = 12
      · have hg : Good d (p :: r) := by unfold Good; rw [h]; rfl
        obtain ⟨h0, _, _, _, _, _, h4, h5⟩ := good_group hg hk
        have h6 := h
        rw [rangeP, if_pos hk] at h6
        split at h6
        · split at h6
          · cases h6
          · rw [Option.map_eq_some_iff] at h6
            obtain ⟨o', ho', e⟩ := h6
            have ht : p.times ≠ 0 := by intro ht; rw [if_pos ht] at e; omega
            rw [if_neg ht] at e
            rw [openP_group hk, if_neg ht]
            exact ih _ _ (by simp; omega) (by rw [ho']; congr 1; omega)
        · cases h6
      · rw [openP_plain hk]
        rw [rangeP, if_neg hk] at h
        split at h
        · exact ih _ _ (by omega) h
        · cases h
theorem openP_part (cnt : Bool) (n : Nat) : ∀ l : List PieceD, l.length ≤ n → okP (rangeP 0 l) = true → openP cnt l 0 = sumP cnt (openPart l) 0 := by
  induction n with
  | zero => intro l hl _; have : l = [] := by cases l <;> simp_all
            subst this; rw [openP_nil, openPart, sumP_nil]
  | succ n ih =>
    intro l hl h
    cases l with
    | nil => rw [openP_nil, openPart, sumP_nil]
    | cons p r =>
      simp only [List.length_cons] at hl
      have hg : Good 0 (p :: r) := by
        unfold Good
        cases e : rangeP 0 (p :: r) with
        | none => rw [e] at h; cases h
        | some o => rfl
      by_cases hk : p.kind = 12
      · obtain ⟨h0, _, _, _, _, _, h4, h5⟩ := good_group hg hk
        have h6 := h
        rw [rangeP, if_pos hk] at h6
        split at h6
        · split at h6
          · cases h6
          · cases ho : rangeP 0 (r.drop p.len.toNat) with
            | none => rw [ho] at h6; cases h6
            | some o =>
              rw [ho] at h6
              have h7 : (if p.times = 0 then 1 else 0) + o ≤ 1 := of_decide_eq_true h6
              rw [openP_group hk]
              by_cases ht : p.times = 0
              · rw [if_pos ht] at h7 ⊢
                rw [openP_zero cnt 0 n _ _ (by simp; omega) (by rw [ho]; congr 1; omega), openPart, if_pos ⟨hk, ht⟩]
              · rw [if_neg ht] at h7 ⊢
                rw [openPart, if_neg (fun e => ht e.2)]
                have e2 := openPart_skip (b := r.drop p.len.toNat) (good_deep r.length 1 (by omega) (r.take p.len.toNat) (by simp; omega) h4)
                rw [List.take_append_drop] at e2
                rw [e2]
                exact ih _ (by simp; omega) (by rw [ho]; exact decide_eq_true (by omega))
        · cases h6
      · rw [openP_plain hk, openPart, if_neg (fun e => hk e.1)]
        rw [rangeP, if_neg hk] at h
        split at h
        · exact ih _ (by omega) h
        · cases h
theorem openPart_good (n : Nat) : ∀ l : List PieceD, l.length ≤ n → Good 0 l → ∃ d, Good d (openPart l) := by
  induction n with
  | zero => intro l hl _; have : l = [] := by cases l <;> simp_all
            subst this; exact ⟨0, by rw [openPart]; unfold Good; rw [rangeP_nil]; rfl⟩
  | succ n ih =>
    intro l hl h
    cases l with
    | nil => exact ⟨0, by rw [openPart]; unfold Good; rw [rangeP_nil]; rfl⟩
    | cons p r =>
      simp only [List.length_cons] at hl
      by_cases hk : p.kind = 12
      · obtain ⟨h0, _, _, _, _, _, h4, h5⟩ := good_group h hk
        by_cases ht : p.times = 0
        · rw [openPart, if_pos ⟨hk, ht⟩]; exact ⟨1, h4⟩
        · rw [openPart, if_neg (fun e => ht e.2)]
          have e2 := openPart_skip (b := r.drop p.len.toNat) (good_deep r.length 1 (by omega) (r.take p.len.toNat) (by simp; omega) h4)
          rw [List.take_append_drop] at e2
          rw [e2]
          exact ih _ (by simp; omega) h5
      · rw [openPart, if_neg (fun e => hk e.1)]
        exact ih _ (by omega) (good_plain h hk).2
/-- From k on: the list is good at this depth. -/
theorem good_at_plain {d k : Nat} {ps : List PieceD} {p : PieceD} (h : Good d (ps.drop k)) (hp : ps[k]? = some p) (hk : p.kind ≠ 12) : plainP p = true ∧ Good d (ps.drop (k + 1)) := by
  rw [drop_cons hp] at h; exact good_plain h hk
theorem good_at_group {d k : Nat} {ps : List PieceD} {p : PieceD} (h : Good d (ps.drop k)) (hp : ps[k]? = some p) (hk : p.kind = 12) : ∃ n : Nat, p.len = (n : Int) ∧ 1 ≤ n ∧ k + 1 + n ≤ ps.length ∧ d < 3 ∧ (0 < d → p.times ≠ 0) ∧ 0 ≤ p.times ∧ p.times ≤ 16 ∧ Good (d + 1) (segP ps (k + 1) (k + 1 + n)) ∧ Good d (ps.drop (k + 1 + n)) ∧
    (∀ cnt acc, sumP cnt (ps.drop k) acc = sumP cnt (ps.drop (k + 1 + n)) (wrap64 (acc + wrap64 (p.times * sumP cnt (segP ps (k + 1) (k + 1 + n)) 0)))) ∧ (∀ cnt o, openP cnt (ps.drop k) o = openP cnt (ps.drop (k + 1 + n)) (if p.times = 0 then sumP cnt (segP ps (k + 1) (k + 1 + n)) 0 else o)) := by
  rw [drop_cons hp] at h
  have hkl := (List.getElem?_eq_some_iff.1 hp).1
  obtain ⟨h0, h1, h2, h3, h4, h5, h6, h7⟩ := good_group h hk
  rw [List.length_drop] at h2
  have e1 : (ps.drop (k + 1)).take p.len.toNat = segP ps (k + 1) (k + 1 + p.len.toNat) := by unfold segP; congr 1; omega
  have e2 : (ps.drop (k + 1)).drop p.len.toNat = ps.drop (k + 1 + p.len.toNat) := by rw [List.drop_drop]
  rw [e1] at h6
  rw [e2] at h7
  refine ⟨p.len.toNat, by omega, by omega, by omega, h0, h5, h3, h4, h6, h7, fun cnt acc => ?_, fun cnt o => ?_⟩
  · rw [drop_cons hp, sumP_group hk, e1, e2]
  · rw [drop_cons hp, openP_group hk, e1, e2]
theorem sum_at_plain {k : Nat} {ps : List PieceD} {p : PieceD} (hp : ps[k]? = some p) (hk : p.kind ≠ 12) (cnt : Bool) (acc : Int) : sumP cnt (ps.drop k) acc = sumP cnt (ps.drop (k + 1)) (wrap64 (acc + (if cnt then p.times else wrap64 (p.times * takenB p.kind)))) := by
  rw [drop_cons hp, sumP_plain hk]

end Go.Proofs.YthjamohaeahipaaGreat

/- NeedOf, the given side. -/
namespace Go.Proofs.YthjamohaeahipaaGreat
open Go.RowKit

theorem good_bound (n : Nat) : ∀ (d : Nat) (l : List PieceD), l.length ≤ n → Good d l → ∀ (k : Nat) (p : PieceD), l[k]? = some p → p.kind = 12 → 1 ≤ p.len ∧ (k : Int) + 1 + p.len ≤ l.length := by
  induction n with
  | zero => intro d l hl _ k p hp; have : l = [] := by cases l <;> simp_all
            subst this; simp at hp
  | succ n ih =>
    intro d l hl h k p hp hk
    cases l with
    | nil => simp at hp
    | cons q r =>
      simp only [List.length_cons] at hl ⊢
      by_cases hq : q.kind = 12
      · obtain ⟨_, h1, h2, _, _, h3, h4, h5⟩ := good_group h hq
        cases k with
        | zero => simp at hp; subst hp; omega
        | succ k =>
          simp only [List.getElem?_cons_succ] at hp
          by_cases hkn : k < q.len.toNat
          · have := ih (d + 1) (r.take q.len.toNat) (by simp; omega) h4 k p (by rw [List.getElem?_take_of_lt hkn]; exact hp) hk
            have hl2 : (r.take q.len.toNat).length ≤ r.length := by simp; omega
            omega
          · have := ih d (r.drop q.len.toNat) (by simp; omega) h5 (k - q.len.toNat) p (by rw [List.getElem?_drop, show q.len.toNat + (k - q.len.toNat) = k by omega]; exact hp) hk
            have hl2 : (r.drop q.len.toNat).length = r.length - q.len.toNat := by simp
            omega
      · cases k with
        | zero => simp at hp; subst hp; exact absurd hk hq
        | succ k =>
          have := ih d r (by omega) (good_plain h hq).2 k p (by simpa using hp) hk
          omega


end Go.Proofs.YthjamohaeahipaaGreat

/- measure, eachPiece and the closure between them. -/
namespace Go.Proofs.YthjamohaeahipaaGreat
open Go.RowKit

def needP (ps : List PieceD) : Int × Int × Bool := if piecesB ps then (sumP false ps 0, sumP false (openPart ps) 0, true) else (0, 0, false)
theorem piecesB_good {ps : List PieceD} (h : piecesB ps = true) : ps.length ≤ 24 ∧ okP (rangeP 0 ps) = true ∧ Good 0 ps := by
  unfold piecesB at h
  simp only [Bool.and_eq_true, decide_eq_true_eq] at h
  refine ⟨h.1, h.2, ?_⟩
  unfold Good
  cases e : rangeP 0 ps with
  | none => rw [e] at h; cases h.2
  | some o => rfl
theorem openPart_length (ps : List PieceD) : (openPart ps).length ≤ ps.length := by
  induction ps with
  | nil => simp [openPart]
  | cons p r ih =>
    rw [openPart]
    split
    · simp; omega
    · simp; omega


end Go.Proofs.YthjamohaeahipaaGreat

/- ExpandPieces: the plain functions. -/
namespace Go.Proofs.YthjamohaeahipaaGreat
open Go Go.RowKit

def rep (n : Int) (xs : List Int) : List Int := (List.replicate n.toNat xs).flatten
theorem rep_length (n : Int) (xs : List Int) : (rep n xs).length = n.toNat * xs.length := by
  unfold rep
  generalize n.toNat = k
  induction k with
  | zero => simp
  | succ k ih => rw [List.replicate_succ, List.flatten_cons, List.length_append, ih, Nat.succ_mul]; omega
theorem rep_zero {n : Int} (h : n ≤ 0) (xs : List Int) : rep n xs = [] := by
  have : n.toNat = 0 := by omega
  rw [rep, this]; rfl
theorem rep_snoc (k : Nat) (xs : List Int) : rep ((k : Int) + 1) xs = rep (k : Int) xs ++ xs := by
  have e1 : ((k : Int) + 1).toNat = k + 1 := by omega
  have e2 : (k : Int).toNat = k := by omega
  rw [rep, rep, e1, e2, List.replicate_succ', List.flatten_append]
  simp
def expP (o : Int) : List PieceD → List Int
  | [] => []
  | p :: r =>
    if p.kind = 12 then rep (if p.times = 0 then o else p.times) (expP o (r.take p.len.toNat)) ++ expP o (r.drop p.len.toNat)
    else rep p.times [p.kind] ++ expP o r
termination_by l => l.length
decreasing_by all_goals (simp; try omega)
theorem expP_nil (o : Int) : expP o [] = [] := by rw [expP]
theorem expP_group {o : Int} {p : PieceD} {r : List PieceD} (h : p.kind = 12) : expP o (p :: r) = rep (if p.times = 0 then o else p.times) (expP o (r.take p.len.toNat)) ++ expP o (r.drop p.len.toNat) := by rw [expP, if_pos h]
theorem expP_plain {o : Int} {p : PieceD} {r : List PieceD} (h : p.kind ≠ 12) : expP o (p :: r) = rep p.times [p.kind] ++ expP o r := by rw [expP, if_neg h]
theorem exp_at_plain {k : Nat} {ps : List PieceD} {p : PieceD} (hp : ps[k]? = some p) (hk : p.kind ≠ 12) (o : Int) : expP o (ps.drop k) = rep p.times [p.kind] ++ expP o (ps.drop (k + 1)) := by
  rw [drop_cons hp, expP_plain hk]
theorem exp_at_group {k n : Nat} {ps : List PieceD} {p : PieceD} (hp : ps[k]? = some p) (hk : p.kind = 12) (hn : p.len = (n : Int)) (o : Int) : expP o (ps.drop k) = rep (if p.times = 0 then o else p.times) (expP o (segP ps (k + 1) (k + 1 + n))) ++ expP o (ps.drop (k + 1 + n)) := by
  rw [drop_cons hp, expP_group hk, hn, Int.toNat_natCast, List.drop_drop]
  have e : segP ps (k + 1) (k + 1 + n) = (ps.drop (k + 1)).take n := by rw [segP, Nat.add_sub_cancel_left]
  rw [e]
theorem expP_deep (n d : Nat) (hd : 0 < d) (o : Int) : ∀ l : List PieceD, l.length ≤ n → Good d l → expP o l = expP 0 l := by
  induction n generalizing d with
  | zero => intro l hl _; have : l = [] := by cases l <;> simp_all
            subst this; rw [expP_nil, expP_nil]
  | succ n ih =>
    intro l hl h
    cases l with
    | nil => rw [expP_nil, expP_nil]
    | cons p r =>
      simp only [List.length_cons] at hl
      by_cases hk : p.kind = 12
      · obtain ⟨_, h1, h2, _, _, h3, h4, h5⟩ := good_group h hk
        rw [expP_group hk, expP_group hk, if_neg (h3 hd), if_neg (h3 hd), ih (d + 1) (by omega) _ (by simp; omega) h4, ih d hd _ (by simp; omega) h5]
      · rw [expP_plain hk, expP_plain hk, ih d hd _ (by omega) (good_plain h hk).2]
def roomOf : Nat → Nat
  | 0 => 262144
  | 1 => 16384
  | 2 => 1024
  | _ => 64
theorem roomOf_step {d : Nat} (h : d < 3) : roomOf d = 16 * roomOf (d + 1) := by
  rcases (by omega : d = 0 ∨ d = 1 ∨ d = 2) with e | e | e <;> subst e <;> rfl
theorem roomOf_ge (d : Nat) : 64 ≤ roomOf d := by unfold roomOf; split <;> omega
theorem roomOf_le (d : Nat) : roomOf d ≤ 262144 := by unfold roomOf; split <;> omega
theorem times_of {p : PieceD} (h : plainP p = true) : 1 ≤ p.times ∧ p.times ≤ 16 ∧ p.len = 0 ∧ isStitchB p.kind = true := by
  unfold plainP at h
  simp only [Bool.and_eq_true, decide_eq_true_eq] at h
  obtain ⟨⟨h1, h2⟩, h3⟩ := h
  have := inR_iff.1 h2
  exact ⟨this.1, this.2, h3, h1⟩
theorem expP_small (n : Nat) (o : Int) (ho : o ≤ 16) : ∀ (d : Nat) (l : List PieceD), l.length ≤ n → Good d l → (expP o l).length ≤ l.length * roomOf d := by
  induction n with
  | zero => intro d l hl _; have : l = [] := by cases l <;> simp_all
            subst this; rw [expP_nil]; simp
  | succ n ih =>
    intro d l hl h
    cases l with
    | nil => rw [expP_nil]; simp
    | cons p r =>
      simp only [List.length_cons] at hl
      by_cases hk : p.kind = 12
      · obtain ⟨h0, h1, h2, h8, h9, h3, h4, h5⟩ := good_group h hk
        have i1 := ih (d + 1) (r.take p.len.toNat) (by simp; omega) h4
        have i2 := ih d (r.drop p.len.toNat) (by simp; omega) h5
        have l1 : (r.take p.len.toNat).length + (r.drop p.len.toNat).length = r.length := by rw [← List.length_append, List.take_append_drop]
        rw [expP_group hk, List.length_append, rep_length, List.length_cons, roomOf_step h0] at *
        have l2 : (if p.times = 0 then o else p.times).toNat ≤ 16 := by split <;> omega
        have l3 := Nat.mul_le_mul l2 i1
        have l4 : r.length * (16 * roomOf (d + 1)) = (r.take p.len.toNat).length * (16 * roomOf (d + 1)) + (r.drop p.len.toNat).length * (16 * roomOf (d + 1)) := by rw [← Nat.add_mul, l1]
        have l5 : 16 * ((r.take p.len.toNat).length * roomOf (d + 1)) = (r.take p.len.toNat).length * (16 * roomOf (d + 1)) := by rw [Nat.mul_left_comm]
        have l6 : (r.length + 1) * (16 * roomOf (d + 1)) = r.length * (16 * roomOf (d + 1)) + 16 * roomOf (d + 1) := by rw [Nat.add_mul, Nat.one_mul]
        omega
      · obtain ⟨hp, hg⟩ := good_plain h hk
        obtain ⟨t1, t2, _⟩ := times_of hp
        have i1 := ih d r (by omega) hg
        have hr := roomOf_ge d
        rw [expP_plain hk, List.length_append, rep_length]
        simp only [List.length_cons, List.length_nil]
        rw [Nat.add_mul, Nat.one_mul]
        omega
theorem takenB_le (k : Int) (h : isStitchB k = true) : 0 ≤ takenB k ∧ takenB k ≤ 4 := by
  have h1 := inR_iff.1 h
  rcases (by omega : k = 1 ∨ k = 2 ∨ k = 3 ∨ k = 4 ∨ k = 5 ∨ k = 6 ∨ k = 7 ∨ k = 8 ∨ k = 9 ∨ k = 10 ∨ k = 11) with e | e | e | e | e | e | e | e | e | e | e <;> subst e <;> decide
theorem sumP_small (cnt : Bool) (n : Nat) : ∀ (d : Nat) (l : List PieceD) (acc : Int), l.length ≤ n → n ≤ 100 → Good d l → 0 ≤ acc → acc + ((l.length * roomOf d : Nat) : Int) ≤ 1000000000000000 → acc ≤ sumP cnt l acc ∧ sumP cnt l acc ≤ acc + ((l.length * roomOf d : Nat) : Int) := by
  induction n with
  | zero => intro d l acc hl _ _ h0 _; have : l = [] := by cases l <;> simp_all
            subst this; rw [sumP_nil]; simp
  | succ n ih =>
    intro d l acc hl h100 h h0 h1
    cases l with
    | nil => rw [sumP_nil]; simp
    | cons p r =>
      simp only [List.length_cons] at hl h1 ⊢
      rw [Nat.add_mul, Nat.one_mul] at h1 ⊢
      have hr := roomOf_ge d
      by_cases hk : p.kind = 12
      · obtain ⟨hd, k1, k2, k8, k9, _, h4, h5⟩ := good_group h hk
        have l1 : (r.take p.len.toNat).length + (r.drop p.len.toNat).length = r.length := by rw [← List.length_append, List.take_append_drop]
        have m1 := Nat.mul_le_mul (show (r.take p.len.toNat).length ≤ 100 by simp; omega) (roomOf_le (d + 1))
        obtain ⟨s0, s1⟩ := ih (d + 1) (r.take p.len.toNat) 0 (by simp; omega) (by omega) h4 (by omega) (by omega)
        have l4 : r.length * roomOf d = (r.take p.len.toNat).length * roomOf d + (r.drop p.len.toNat).length * roomOf d := by rw [← Nat.add_mul, l1]
        have l5 : (r.take p.len.toNat).length * roomOf d = 16 * ((r.take p.len.toNat).length * roomOf (d + 1)) := by rw [roomOf_step hd, Nat.mul_left_comm]
        rw [sumP_group hk]
        have hi := fun a x y => ih d (r.drop p.len.toNat) a (by simp; omega) (by omega) h5 x y
        generalize sumP cnt (r.take p.len.toNat) 0 = S at s0 s1 ⊢
        generalize (r.take p.len.toNat).length * roomOf (d + 1) = X at *
        have t1 := Int.mul_le_mul_of_nonneg_right k9 s0
        have t0 := Int.mul_nonneg k8 s0
        generalize p.times * S = Z at t0 t1 ⊢
        have w1 : wrap64 Z = Z := IntWalk.wrap64_in _ ⟨by omega, by omega⟩
        have w2 : wrap64 (acc + Z) = acc + Z := IntWalk.wrap64_in _ ⟨by omega, by omega⟩
        rw [w1, w2]
        have := hi (acc + Z) (by omega) (by omega)
        omega
      · obtain ⟨hp, hg⟩ := good_plain h hk
        obtain ⟨t1, t2, _, t4⟩ := times_of hp
        obtain ⟨k1, k2⟩ := takenB_le _ t4
        rw [sumP_plain hk]
        have hi := fun a x y => ih d r a (by omega) (by omega) hg x y
        have hv : 0 ≤ (if cnt then p.times else wrap64 (p.times * takenB p.kind)) ∧ (if cnt then p.times else wrap64 (p.times * takenB p.kind)) ≤ 64 := by
          split
          · omega
          · have z1 := Int.mul_le_mul t2 k2 k1 (by omega)
            have z0 := Int.mul_nonneg (show 0 ≤ p.times by omega) k1
            generalize p.times * takenB p.kind = Z at z0 z1 ⊢
            rw [show wrap64 Z = Z from IntWalk.wrap64_in _ ⟨by omega, by omega⟩]
            omega
        generalize (if cnt then p.times else wrap64 (p.times * takenB p.kind)) = v at hv ⊢
        rw [show wrap64 (acc + v) = acc + v from IntWalk.wrap64_in _ ⟨by omega, by omega⟩]
        have := hi (acc + v) (by omega) (by omega)
        omega
/-- How often the open group is made. -/
def expT (need cols each : Int) : Int := if need < cols ∧ 0 < each then (cols - need).tdiv each else 0
theorem expT_range {need cols each : Int} (h0 : 0 ≤ need) (h8 : cols ≤ 8) : 0 ≤ expT need cols each ∧ expT need cols each ≤ 8 := by
  unfold expT
  split
  · rename_i h
    rw [Int.tdiv_eq_ediv_of_nonneg (by omega)]
    have h1 := Int.ediv_nonneg (show 0 ≤ cols - need by omega) (show 0 ≤ each by omega)
    have h2 := Int.ediv_le_self each (show 0 ≤ cols - need by omega)
    omega
  · omega
def needOf (ps : List PieceD) : Int := sumP false ps 0
def eachOf (ps : List PieceD) : Int := sumP false (openPart ps) 0
def timesOf (ps : List PieceD) (cols : Int) : Int := expT (needOf ps) cols (eachOf ps)
def exCode (ps : List PieceD) (cols : Int) : Int :=
  if piecesB ps then
    if inR cols 1 8 then
      if needOf ps + timesOf ps cols * eachOf ps = cols then
        if sumP true ps 0 + timesOf ps cols * sumP true (openPart ps) 0 ≤ 16 then 0 else 5
      else 10
    else 2
  else 1
def exRes (ps : List PieceD) (cols : Int) : List Int := if exCode ps cols = 0 then expP (timesOf ps cols) ps else []
theorem ex_err {ps : List PieceD} {cols k : Int} (e : exCode ps cols = k) (hk : k ≠ 0) : exRes ps cols = [] ∧ exCode ps cols = k := ⟨by rw [exRes, if_neg (by rw [e]; exact hk)], e⟩
theorem ex_ok {ps : List PieceD} {cols : Int} (e : exCode ps cols = 0) : exRes ps cols = expP (timesOf ps cols) ps ∧ exCode ps cols = 0 := ⟨by rw [exRes, if_pos e], e⟩
theorem sums_small {ps : List PieceD} (h : piecesB ps = true) (cnt : Bool) : (0 ≤ sumP cnt ps 0 ∧ sumP cnt ps 0 ≤ 30000000) ∧ (0 ≤ sumP cnt (openPart ps) 0 ∧ sumP cnt (openPart ps) 0 ≤ 30000000) := by
  obtain ⟨h24, _, hg⟩ := piecesB_good h
  obtain ⟨d, hd⟩ := openPart_good ps.length ps (Nat.le_refl _) hg
  have hpl := openPart_length ps
  have m1 := Nat.mul_le_mul h24 (roomOf_le 0)
  have m2 := Nat.mul_le_mul (show (openPart ps).length ≤ 24 by omega) (roomOf_le d)
  have s1 := sumP_small cnt ps.length 0 ps 0 (Nat.le_refl _) (by omega) hg (by omega) (by omega)
  have s2 := sumP_small cnt ps.length d (openPart ps) 0 hpl (by omega) hd (by omega) (by omega)
  omega
theorem exRes_length (ps : List PieceD) (cols : Int) : (exRes ps cols).length ≤ 7000000 := by
  unfold exRes
  split
  · rename_i h
    have hv : piecesB ps = true := by
      cases hv : piecesB ps
      · rw [exCode, hv] at h; simp at h
      · rfl
    have hc : inR cols 1 8 = true := by
      cases hc : inR cols 1 8
      · rw [exCode, hv, hc] at h; simp at h
      · rfl
    obtain ⟨h24, _, hg⟩ := piecesB_good hv
    have ht := expT_range (each := eachOf ps) (sums_small hv false).1.1 (inR_iff.1 hc).2
    have := expP_small ps.length (timesOf ps cols) (by unfold timesOf needOf; omega) 0 ps (Nat.le_refl _) hg
    have m1 := Nat.mul_le_mul h24 (roomOf_le 0)
    omega
  · simp

end Go.Proofs.YthjamohaeahipaaGreat

/- ExpandPieces: the stitches of pieces, the given side. -/
namespace Go.Proofs.YthjamohaeahipaaGreat
open Go Go.RowKit

theorem wpList_appendC_at {P : Program} (w : World) {ops : Array Oper} {rest : List Oper} {o : Oper} {a : Act} {Q : Exit → Act → World → Prop} (hgd : o.guard = none) (s x : Operand) (t : TypeId)
    (hop : o.op = .call { callee := .builtin .append, args := #[s, x], argTypes := #[t, t] })
    (e : TypeId) (i : TypeInfo) (z : Value) (size bytes : Nat) (ht : P.underlying t = some (.slice e)) (hi : P.info? e = some i) (hz : i.zero = some z)
    (hsize : i.size = size) (hby : i.bytes = bytes) (hzs : z.cells.size = size) (hsz : 0 < size)
    {lo hi' n c : Nat} {A : Option Addr} {cs : List Value} (hs : a.eval s = .slice A n c) (hown : OwnC w lo hi' e size A n c cs) (hlo : lo ≤ w.heap.size)
    (A2 : Option Addr) (m c2 : Nat) (news : List Value) (hx : a.eval x = .slice A2 m c2) (hl : news.length = m * size)
    (hnews : ∀ j u, news[j]? = some u → ∃ b off, A2 = some ⟨b, off, none⟩ ∧ w.cell? ⟨b, off + j, none⟩ = some u) (h1 : ∀ u ∈ news, u.oneCell' = true)
    (h63 : n + m ≤ maxLen) (hbytes : (n + m) * bytes ≤ 140737488355328)
    (h : ∀ A' c' w', OwnC w' lo w'.heap.size e size A' (n + m) c' (cs ++ news) → w.grownBy w' (Value.slice A n c).ownBlock → Below lo w w' → ((Value.slice A' (n + m) c').ownBlock = (Value.slice A n c).ownBlock ∨ (Value.slice A' (n + m) c').ownBlock = some w.heap.size) → wpList P ops Q rest (a.put o.dst (.slice A' (n + m) c')) w') : wpList P ops Q (o :: rest) a w :=
  wpList_plain hgd fun _ hK => wp_appendC_at w s x t hop e i z size bytes ht hi hz hsize hby hzs hsz hs hown hlo A2 m c2 news hx hl hnews h1 h63 hbytes fun A' c' w' h2 h3 h4 h5 => hK _ _ (h A' c' w' h2 h3 h4 h5)
/-- The two slices do not lie in one block. -/
def Apart (A B : Option Addr) : Prop := ∀ a b, A = some a → B = some b → a.block ≠ b.block
theorem Apart.of {w : World} {lo hi lo' hi' : Nat} {A B : Option Addr} {n c m d : Nat} {xs ys : List Value} (h : OwnC w lo hi 2 1 A n c xs) (h' : OwnC w lo' hi' 2 1 B m d ys) (hh : hi ≤ lo') : Apart A B := by
  intro a b ha hb e
  have h1 := h.lt a ha
  rcases h'.form with ⟨hB, _⟩ | ⟨q, _, hB, h2, _⟩
  · rw [hB] at hb; cases hb
  · rw [hB] at hb
    injection hb with hb
    subst hb
    have : lo' ≤ q := h2
    have e' : a.block = q := e
    omega
theorem Apart.kept {w w' : World} {lo hi : Nat} {A B : Option Addr} {n c m d : Nat} {ys : List Value} (ha : Apart A B) (h : OwnC w lo hi 2 1 B m d ys) (hhi : hi ≤ w.heap.size) (hg : w.grownBy w' (Value.slice A n c).ownBlock) : OwnC w' lo hi 2 1 B m d ys := by
  refine h.keep1 fun q hq => hg.block q ?_ ?_
  · have := h.lt _ hq; exact Nat.lt_of_lt_of_le this hhi
  · intro e
    cases A with
    | none => cases e
    | some a =>
      injection e with e
      exact ha a ⟨q, 0, none⟩ rfl hq e.symm
theorem Apart.next {w : World} {lo hi : Nat} {A A' B : Option Addr} {n c n' c' m d : Nat} {ys : List Value} (ha : Apart A B) (h : OwnC w lo hi 2 1 B m d ys) (hhi : hi ≤ w.heap.size) (hat : (Value.slice A' n' c').ownBlock = (Value.slice A n c).ownBlock ∨ (Value.slice A' n' c').ownBlock = some w.heap.size) : Apart A' B := by
  intro a b hA hB e
  subst hA
  have hb := h.lt b hB
  rcases hat with hat | hat
  · cases A with
    | none => cases hat
    | some a0 =>
      injection hat with hat
      exact ha a0 b rfl hB (by rw [← hat]; exact e)
  · injection hat with hat
    omega

end Go.Proofs.YthjamohaeahipaaGreat

/- The draws: a row that fits. -/
namespace Go.Proofs.YthjamohaeahipaaGreat
open Go Go.RowKit

theorem ones_plain (m : Nat) : OnlyPlain (List.replicate m 1) ∧ takenS (List.replicate m 1) = m := by
  induction m with
  | zero => exact ⟨fun k hk => by simp at hk, rfl⟩
  | succ m ih =>
    rw [List.replicate_succ]
    refine ⟨fun k hk => ?_, ?_⟩
    · rcases List.mem_cons.1 hk with rfl | hk
      · exact .inl rfl
      · exact ih.1 k hk
    · rw [takenS, ih.2, show takenN 1 = 1 from rfl]; omega
/-- Knitting all columns never makes more loops. -/
theorem knit_after {st : List Int} (h : ∀ x ∈ st, 1 ≤ x) : afterP (List.replicate st.length 1) st = List.replicate st.length 1 ∧ okAfter (List.replicate st.length 1) st = true ∧ changesP (List.replicate st.length 1) st = st.map fun x => 1 - x := by
  induction st with
  | nil => exact ⟨rfl, rfl, rfl⟩
  | cons x st ih =>
    obtain ⟨i1, i2, i3⟩ := ih fun y hy => h y (by simp [hy])
    have hd : (x :: st).drop (takenN 1) = st := rfl
    have e1 : stepMade 1 (x :: st) = [1] := rfl
    have e2 : stepOk 1 (x :: st) = true := rfl
    refine ⟨?_, ?_, ?_⟩
    · rw [List.length_cons, List.replicate_succ, afterP, e1, hd, i1]; rfl
    · rw [List.length_cons, List.replicate_succ, okAfter, e2, hd, i2]; rfl
    · rw [List.length_cons, List.replicate_succ, changesP, hd, i3, List.map_cons, changeI, e1]
      congr 1
      show sumI [1] - sumI [x] = 1 - x
      simp [sumI]
theorem limB_down {s : Int} {cs : List Int} (hs : s ≤ 12) (h : ∀ c ∈ cs, c ≤ 0) : limB s cs = true := by
  induction cs generalizing s with
  | nil => rfl
  | cons c cs ih =>
    have hc := h c (by simp)
    rw [limB, decide_eq_true (show s + c ≤ 12 by omega), ih (by omega) fun x hx => h x (by simp [hx])]
    rfl
theorem knit_row {st : List Int} (hst : stacksB st = true) (hs : sumI st ≤ 12) {d car : Int} (hd : d = 1 ∨ d = -1) (hc : carrierB car = true) : rowOkB st ⟨d, car, List.replicate st.length 1⟩ = true ∧ afterP (List.replicate st.length 1) st = List.replicate st.length 1 := by
  obtain ⟨h8, hr⟩ := stacksB_of hst
  obtain ⟨p1, p2⟩ := ones_plain st.length
  obtain ⟨k1, k2, k3⟩ := knit_after fun x hx => (inR_iff.1 (hr x hx)).1
  have hk := plain_stitches p1 (by rw [List.length_replicate]; omega)
  have hsa : stacksAfterP st (List.replicate st.length 1) = (List.replicate st.length 1, 0) := by
    unfold stacksAfterP
    rw [hst, hk, if_pos (by rfl), if_pos p2, k1, k2, if_pos (by rw [List.length_replicate]; simpa using h8)]
  refine ⟨?_, k1⟩
  unfold rowOkB rowB dirB stepCode keepB
  rw [hsa, hc, k3, ordL]
  simp only [Bool.and_eq_true, Bool.or_eq_true, beq_iff_eq, decide_eq_true_eq]
  have hneg : ∀ c ∈ st.map (fun x => 1 - x), c ≤ 0 := by
    intro c hcm
    rw [List.mem_map] at hcm
    obtain ⟨x, hx, rfl⟩ := hcm
    have := (inR_iff.1 (hr x hx)).1
    omega
  refine ⟨⟨⟨⟨hd, trivial⟩, hk⟩, trivial⟩, ?_⟩
  split
  · exact limB_down hs fun c hc => hneg c (List.mem_reverse.1 hc)
  · exact limB_down hs hneg
theorem row_of_tests {st ks : List Int} {d car : Int} (hd : d = 1 ∨ d = -1) (hc : carrierB car = true) (h1 : (stacksAfterP st ks).2 = 0) (h2 : keepB d st ks = true) (hk : stitchesB ks = true) : rowOkB st ⟨d, car, ks⟩ = true := by
  unfold rowOkB rowB dirB stepCode
  rw [h2, hc, hk]
  simp only [Bool.and_eq_true, Bool.or_eq_true, beq_iff_eq, decide_eq_true_eq]
  exact ⟨⟨⟨⟨hd, trivial⟩, trivial⟩, h1⟩, trivial⟩
theorem Ints.grownO {w w' : World} {g : Nat} {A : Option Addr} {xs : List Int} (h : Ints w A xs) (hg : w.grownBy w' (some g)) (hA : ∀ a, A = some a → a.block ≠ g) : Ints w' A xs := h.grownG hg hA

set_option maxHeartbeats 8000000 in
set_option maxRecDepth 10000 in
theorem spec_l15DrawRow (st : List Int) (dd car : Int) (A : Option Addr) (c : Nat) (w : World) (g : Nat) (AB : Option Addr) (cB : Nat) (bs : List Int) (b : Nat) (hsv : Sv w g AB cB bs b) (hb : b ≤ 288230376151711744) (h : Ints w A st) (hAg : ∀ a, A = some a → a.block ≠ g) (hst : stacksB st = true) (hsum : sumI st ≤ 12) (hd : dd = 1 ∨ dd = -1) (hc : carrierB car = true) :
    Calls Tryz.prog 18 #[.pointer (some ⟨g, 0, none⟩), .slice A st.length c, .int .i64 dd, .int .i64 car] w fun e w' => ∃ (A1 : Option Addr) (c1 : Nat) (ks : List Int) (A2 : Option Addr) (c2 : Nat), e = .returned (.tuple #[.agg #[.int .i64 dd, .int .i64 car, .slice A1 ks.length c1], .slice A2 (afterP ks st).length c2]) ∧ rowOkB st ⟨dd, car, ks⟩ = true ∧ OwnI w' w.heap.size w'.heap.size A1 c1 ks ∧ OwnI w' w.heap.size w'.heap.size A2 c2 (afterP ks st) ∧ Sv w' g AB cB bs (b + 13510798882111488) ∧ w.grownBy w' (some g) := by
  obtain ⟨iI, hi0, hu0, hu1, hu2⟩ := info_parts info_int64
  have t1 : (64 : TypeId) ≠ 2 := by decide
  have t2 : (26 : TypeId) ≠ 2 := by decide
  have h8 := (stacksB_of hst).1
  have HST := Lib.hid hst; clear hst
  have HD := Lib.hid hd; clear hd
  have HC := Lib.hid hc; clear hc
  have HS := Lib.hid hsum; clear hsum
  have HA := Lib.hid hAg; clear hAg
  have hgw := hsv.lt
  obtain ⟨w1, hw1⟩ : ∃ w1, w1 = (w.alloc (.cells #[.int .i64 0, .int .i64 0, .slice none 0 0] 26)).alloc (.cells #[.int .i64 dd, .int .i64 car, .slice none 0 0] 26) := ⟨_, rfl⟩
  have kz1 : Blk w1 w.heap.size 26 #[.int .i64 0, .int .i64 0, .slice none 0 0] := by rw [hw1]; exact (Blk.new w _ _).alloc _
  have kx1 : Blk w1 (w.heap.size + 1) 26 #[.int .i64 dd, .int .i64 car, .slice none 0 0] := by rw [hw1]; simpa using Blk.new (w.alloc (.cells #[.int .i64 0, .int .i64 0, .slice none 0 0] 26)) 26 #[.int .i64 dd, .int .i64 car, .slice none 0 0]
  have hg1 : w.grownBy w1 (some g) := by rw [hw1]; exact (World.grownBy_alloc _ _ _).trans (World.grownBy_alloc _ _ _)
  have hs1 : Sv w1 g AB cB bs b := by rw [hw1]; exact (hsv.alloc _).alloc _
  obtain ⟨gR, hgR⟩ : ∃ gR, gR = w.heap.size + 1 := ⟨_, rfl⟩
  rw [← hgR] at kx1
  have hzR : w.heap.size < gR := by omega
  go_enter Tryz.func18, Tryz.ntmps18
  go_upto_region 2 with fail
  rw [← hw1, ← hgR]
  clear hw1 hgR
  go_wp2_with (fail)
  go_loopw [11] (fun kv wr => ∃ (k : Nat) (V : Value), k ≤ 3 ∧ kv = .int .i64 k ∧ Blk wr w.heap.size 26 #[.int .i64 0, .int .i64 0, .slice none 0 0] ∧ Blk wr gR 26 #[.int .i64 dd, .int .i64 car, V] ∧ Sv wr g AB cB bs (b + k * 4503599627370496) ∧ w.grownBy wr (some g)) (fun kv _ => 3 - (intOf kv).toNat)
  case atStart => exact ⟨0, _, Nat.zero_le _, rfl, kz1, kx1, by simpa using hs1, hg1⟩
  case round =>
    clear kz1 kx1 hs1 hg1
    obtain ⟨k, V, hk, rfl, kz, kx, hs, hgr⟩ := hrel
    have hzr := hgr.size
    have hgz := kz.lt
    have hgx := kx.lt
    by_cases hk3 : k < 3
    · have d3 : decide ((k : Int) < 3) = true := decide_eq_true (by omega)
      have hi := h.grownG hgr HA.out
      have s0 := kx.c3
      go_upto_region 6 with fail
      go_wp2_with (fail)
      refine (sv_draw14 st.length h8 hs (by omega)).mono ?_
      rintro e w2 ⟨A4, c4, ks, rfl, o4, hks, htk, hs4, hg4⟩
      have hz4 := hg4.size
      have kz4 := kz.grownG hg4 (by omega)
      have kx4 := kx.grownG hg4 (by omega)
      have hgw4 := hgr.trans hg4
      have s4 := kx4.c3
      have f4 := kx4.frozen 2
      clear s0 kz kx hs hg4 hi
      obtain ⟨w3, hw3⟩ : ∃ w3, w3 = w2.setCell ⟨gR, 2, none⟩ (.slice A4 ks.length c4) := ⟨_, rfl⟩
      have kx3 : Blk w3 gR 26 #[.int .i64 dd, .int .i64 car, .slice A4 ks.length c4] := by rw [hw3]; exact kx4.set32 _
      have kz3 : Blk w3 w.heap.size 26 #[.int .i64 0, .int .i64 0, .slice none 0 0] := by rw [hw3]; exact kz4.far (by show w.heap.size ≠ gR; omega) _
      have hgw3 : w.grownBy w3 (some g) := by rw [hw3]; exact gb_set hgw4 (by show w.heap.size ≤ gR; omega) _
      have hs3 : Sv w3 g AB cB bs (b + (k + 1) * 4503599627370496) := by
        have e : Sv w3 g AB cB bs (b + k * 4503599627370496 + 4503599627370496) := by
          rw [hw3]
          exact hs4.store (by omega) _
        exact e.mono (by omega)
      have o3 : OwnI w3 wr.heap.size w2.heap.size A4 c4 ks := by rw [hw3]; exact OwnC.farT o4 kx4 t2 2 _
      have hz3 : w2.heap.size = w3.heap.size := by rw [hw3]; simp
      have hi3 : Ints w3 A st := h.grownG hgw3 HA.out
      have hi4 : Ints w3 A4 ks := OwnC.ints o3
      have s3 := kx3.c3
      go_upto_region 7 with fail
      rw [← hw3]
      clear hw3 kx4 kz4 hs4 o4 hgw4 s4 f4
      have hk16 := (stitchesB_of hks).1
      refine (spec_StacksAfter st ks A c A4 c4 w3 hi3 (by omega) hi4 (by omega)).mono ?_
      rintro e w5 ⟨A5, c5, rfl, o5, b5⟩
      have hz5 := b5.size
      have kx5 := kx3.below b5 kx3.lt
      have kz5 := kz3.below b5 kz3.lt
      have hs5 := hs3.below b5
      have hgw5 := gb_bel hgw3 b5
      have o35 : OwnI w5 wr.heap.size w2.heap.size A4 c4 ks := OwnC.below o3 b5 (by omega)
      have hi5 : Ints w5 A st := hi3.below b5
      have hi45 : Ints w5 A4 ks := hi4.below b5
      clear kx3 kz3 hs3 hgw3 o3 hi3 hi4 s3 b5
      have s5 := kx5.c3
      by_cases hcode : (stacksAfterP st ks).2 = 0
      · obtain ⟨_, _, _, e1, _⟩ := stepCode_of (st := st) (ks := ks) (by unfold stepCode; exact decide_eq_true hcode)
        rw [e1] at o5 ⊢
        rw [hcode]
        have HCODE := Lib.hid hcode; clear hcode
        have HKS := Lib.hid hks; clear hks
        have HE1 := Lib.hid e1; clear e1
        have HTK := Lib.hid htk; clear htk
        go_wp2_with (fail)
        refine (spec_l15Thin dd HD.out st ks A A5 A4 c c5 c4 gR 0 w5 hi5 (OwnC.ints o5) hi45 s5.1 s5.2.2 HST.out HKS.out HTK.out).mono ?_
        rintro e w6 ⟨rfl, b6⟩
        have hz6 := b6.size
        have kx6 := kx5.below b6 kx5.lt
        have kz6 := kz5.below b6 kz5.lt
        have hs6 := hs5.below b6
        have hgw6 := gb_bel hgw5 b6
        have o36 : OwnI w6 wr.heap.size w2.heap.size A4 c4 ks := OwnC.below o35 b6 (by omega)
        have o56 : OwnI w6 w3.heap.size w5.heap.size A5 c5 (afterP ks st) := OwnC.below o5 b6 (by omega)
        clear kx5 kz5 hs5 hgw5 o35 o5 hi5 hi45 s5 b6
        have s6 := kx6.c3
        cases hkp : keepB dd st ks
        · go_wp2_with (fail)
          exact ⟨⟨k + 1, _, by omega, by go_num, kz6, kx6, hs6, hgw6⟩, by simp [intOf]; omega⟩
        · have hrow := row_of_tests HD.out HC.out HCODE.out hkp HKS.out
          have HROW := Lib.hid hrow; clear hrow
          have g0 := kz6.frozen 0
          have g1 := kz6.frozen 1
          have g2 := kz6.frozen 2
          obtain ⟨y0, y1, y2⟩ := kz6.c3
          go_wp2_with (fail)
          have k1 := kz6.set30 (.int .i64 dd)
          have k2 := k1.set31 (.int .i64 car)
          have k3 := k2.set32 (.slice A4 ks.length c4)
          obtain ⟨r0, r1, r2⟩ := k3.c3
          refine bodyPost_ret (v := .tuple #[.agg #[.int .i64 dd, .int .i64 car, .slice A4 ks.length c4], .slice A5 (afterP ks st).length c5]) (by simp [results, Tryz.results18, go_sem, r0, r1, r2]) rfl ⟨A4, c4, ks, A5, c5, rfl, HROW.out, ?_, ?_, ?_, ?_⟩
          · exact (((OwnC.farT o36 kz6 t2 0 _).farT k1 t2 1 _).farT k2 t2 2 _).mono (by omega) (by simp; omega)
          · exact (((OwnC.farT o56 kz6 t2 0 _).farT k1 t2 1 _).farT k2 t2 2 _).mono (by omega) (by simp; omega)
          · exact (((hs6.store (by omega) _).store (by omega) _).store (by omega) _).mono (by omega)
          · exact gb_set (gb_set (gb_set hgw6 (Nat.le_refl _) _) (Nat.le_refl _) _) (Nat.le_refl _) _
      · have hcb : ((stacksAfterP st ks).2 == 0) = false := by simpa using hcode
        clear hcode
        generalize (stacksAfterP st ks).2 = cd at hcb ⊢
        generalize (stacksAfterP st ks).1 = sa at o5 ⊢
        go_wp2_with (fail)
        exact ⟨⟨k + 1, _, by omega, by go_num, kz5, kx5, hs5, hgw5⟩, by simp [intOf]; omega⟩
    · have d3 : decide ((k : Int) < 3) = false := decide_eq_false (by omega)
      have s0 := kx.c3
      have HKN := Lib.hid (knit_row HST.out HS.out HD.out HC.out)
      generalize hm : st.length = m at *
      have HM := Lib.hid hm; clear hm
      obtain ⟨lo, hlo⟩ : ∃ lo, lo = wr.heap.size := ⟨_, rfl⟩
      obtain ⟨wE, hwE⟩ : ∃ wE, wE = (wr.setCell ⟨gR, 2, none⟩ (.slice (some ⟨wr.heap.size, 0, none⟩) 0 0)).alloc (.cells #[] 2) := ⟨_, rfl⟩
      have kxE : Blk wE gR 26 #[.int .i64 dd, .int .i64 car, .slice (some ⟨wr.heap.size, 0, none⟩) 0 0] := by rw [hwE]; exact (kx.set32 _).alloc _
      have kzE : Blk wE w.heap.size 26 #[.int .i64 0, .int .i64 0, .slice none 0 0] := by rw [hwE]; exact (kz.far (by show w.heap.size ≠ gR; omega) _).alloc _
      have hsE : Sv wE g AB cB bs (b + 13510798882111488) := by rw [hwE]; exact ((hs.store (by omega) _).alloc _).mono (by omega)
      have hgE : w.grownBy wE (some g) := by rw [hwE]; exact gb_al (gb_set hgr (by show w.heap.size ≤ gR; omega) _) _
      have oE : OwnC wE lo (wr.heap.size + 1) 2 1 (some ⟨wr.heap.size, 0, none⟩) 0 0 ((List.replicate 0 (1 : Int)).map (Value.int .i64)) := by
        rw [hwE]
        have := OwnC.lit (w := wr.setCell ⟨gR, 2, none⟩ (.slice (some ⟨wr.heap.size, 0, none⟩) 0 0)) (lo := lo) (n := 0) 2 1 #[] (by simp; omega) (Nat.zero_le _) rfl
        simpa using this
      have hzE : wE.heap.size = wr.heap.size + 1 := by rw [hwE]; simp
      have oF := (OwnC.lit (w := wE) (lo := lo) (n := 0) 2 1 #[] (by omega) (Nat.zero_le _) rfl)
      have ap0 : Apart (some ⟨wr.heap.size, 0, none⟩) (some ⟨wE.heap.size, 0, none⟩) := by
        intro a b ha hb e
        injection ha with ha
        injection hb with hb
        subst ha hb
        have e' : wr.heap.size = wE.heap.size := e
        omega
      have f0 := kx.frozen 2
      have HZE := Lib.hid hzE; clear hzE
      go_upto_region 10 with fail
      rw [← hwE]
      clear hwE kz kx hs hgr s0 f0
      go_wp2_with (fail)
      go_loopw [14, 48] (fun av iv wq => ∃ (i : Nat) (A3 : Option Addr) (c3 : Nat) (A7 : Option Addr) (c7 : Nat), i ≤ m ∧ iv = .int .i64 i ∧ av = .slice A7 i c7 ∧ Blk wq w.heap.size 26 #[.int .i64 0, .int .i64 0, .slice none 0 0] ∧ Blk wq gR 26 #[.int .i64 dd, .int .i64 car, .slice A3 i c3] ∧ OwnC wq lo wq.heap.size 2 1 A3 i c3 ((List.replicate i (1 : Int)).map (Value.int .i64)) ∧ OwnC wq lo wq.heap.size 2 1 A7 i c7 ((List.replicate i (1 : Int)).map (Value.int .i64)) ∧ Apart A3 A7 ∧ Sv wq g AB cB bs (b + 13510798882111488) ∧ w.grownBy wq (some g) ∧ lo ≤ wq.heap.size) (fun _ iv _ => m - (intOf iv).toNat)
      case atStart => exact ⟨0, _, 0, _, 0, Nat.zero_le _, rfl, rfl, kzE.alloc _, kxE.alloc _, (oE.alloc _).mono (Nat.le_refl _) (by have := HZE.out; simp; omega), oF.mono (Nat.le_refl _) (by simp), ap0, hsE.alloc _, gb_al hgE _, by have := HZE.out; simp; omega⟩
      case round =>
        clear kzE kxE oE oF ap0 hsE hgE HZE
        obtain ⟨i, A3, c3, A7, c7, hi, rfl, rfl, kz, kx, o3, o7, hap, hs, hgr, hlq⟩ := hrel
        have hgx := kx.lt
        by_cases him : i < m
        · have dm : decide ((i : Int) < (m : Int)) = true := decide_eq_true (by omega)
          have s2 := kx.c3.2.2
          have f2 := kx.frozen 2
          have HW8 : Hid (lo ≤ wr.heap.size + 1) := Lib.hid (by omega)
          have hlit : ∀ (W : World) (j : Nat) (u : Value), ([.int .i64 1] : List Value)[j]? = some u → ∃ b off, (some ⟨W.heap.size, 0, none⟩ : Option Addr) = some ⟨b, off, none⟩ ∧ (W.alloc (.cells #[.int .i64 1] 2)).cell? ⟨b, off + j, none⟩ = some u := by
            intro W j u hj
            refine ⟨W.heap.size, 0, rfl, ?_⟩
            rw [Nat.zero_add, (Blk.new W 2 #[.int .i64 1]).cell j]
            simpa using hj
          have HLT := Lib.hid hlit; clear hlit
          go_upto_region 14 with (at_builtin; refine wpList_appendC_at (wr.alloc (.cells #[.int .i64 1] 2)) rfl (.tmp 51) (.tmp 52) _ rfl 2 iI _ 1 8 Tryz.underlying24 hi0 hu0 hu1 hu2 rfl (by decide) rfl (o3.alloc _) (by simp; exact HW8.out) (some ⟨wr.heap.size, 0, none⟩) 1 1 [.int .i64 1] rfl rfl (HLT.out wr) (by simp [Value.oneCell']) (by unfold maxLen; omega) (by omega) ?_; intro A4 c4 w4 o4 hg4 hb4 hat4; have kx4 := (kx.alloc (.cells #[.int .i64 1] 2)).grownT (OwnC.alloc o3 (.cells #[.int .i64 1] 2)) t2 hg4; have v4 := kx4.c3.2.2; have f4 := kx4.frozen 2)
          have hz4 : wr.heap.size + 1 ≤ w4.heap.size := by have := hg4.size; simpa using this
          have kz4 := (kz.alloc (.cells #[.int .i64 1] 2)).grownT (OwnC.alloc o3 (.cells #[.int .i64 1] 2)) t2 hg4
          have o74 : OwnC w4 lo wr.heap.size 2 1 A7 i c7 ((List.replicate i (1 : Int)).map (Value.int .i64)) := hap.kept (OwnC.alloc o7 (.cells #[.int .i64 1] 2)) (by simp) hg4
          have hap4 : Apart A4 A7 := hap.next (OwnC.alloc o7 (.cells #[.int .i64 1] 2)) (by simp) hat4
          have hrow3 : ∀ q, (Value.slice A3 i c3).ownBlock = some q → lo ≤ q := by
            intro q hq
            rcases OwnC.form o3 with ⟨rfl, _⟩ | ⟨g3, _, rfl, h1, _⟩
            · cases hq
            · injection hq with hq
              exact hq ▸ h1
          have hs4 : Sv w4 g AB cB bs (b + 13510798882111488) := (hs.alloc (.cells #[.int .i64 1] 2)).grown hg4 (fun q hq => by have := hrow3 q hq; omega)
          have hgr4 : w.grownBy w4 (some g) := gb_app (gb_al hgr (.cells #[.int .i64 1] 2)) hg4 (fun q hq => by have := hrow3 q hq; omega)
          have o44 : OwnC w4 lo w4.heap.size 2 1 A4 (i + 1) c4 ((List.replicate (i + 1) (1 : Int)).map (Value.int .i64)) := by
            rw [List.replicate_succ', List.map_append]; exact o4
          clear kx kz o3 o7 hap hs hgr s2 f2 hg4 hb4 hat4 o4 hrow3
          obtain ⟨w5, hw5⟩ : ∃ w5, w5 = w4.setCell ⟨gR, 2, none⟩ (.slice A4 (i + 1) c4) := ⟨_, rfl⟩
          have kx5 : Blk w5 gR 26 #[.int .i64 dd, .int .i64 car, .slice A4 (i + 1) c4] := by rw [hw5]; exact kx4.set32 _
          have kz5 : Blk w5 w.heap.size 26 #[.int .i64 0, .int .i64 0, .slice none 0 0] := by rw [hw5]; exact kz4.far (by show w.heap.size ≠ gR; omega) _
          have o45 : OwnC w5 lo w4.heap.size 2 1 A4 (i + 1) c4 ((List.replicate (i + 1) (1 : Int)).map (Value.int .i64)) := by rw [hw5]; exact o44.farT kx4 t2 2 _
          have o75 : OwnC w5 lo wr.heap.size 2 1 A7 i c7 ((List.replicate i (1 : Int)).map (Value.int .i64)) := by rw [hw5]; exact o74.farT kx4 t2 2 _
          have hs5 : Sv w5 g AB cB bs (b + 13510798882111488) := by rw [hw5]; exact hs4.store (by omega) _
          have hgr5 : w.grownBy w5 (some g) := by rw [hw5]; exact gb_set hgr4 (by show w.heap.size ≤ gR; omega) _
          have HZ5 : Hid (w5.heap.size = w4.heap.size) := Lib.hid (by rw [hw5]; simp)
          rw [← hw5]
          clear hw5 kx4 kz4 o44 o74 hs4 hgr4 v4 f4
          have hap5 : Apart A7 A4 := fun a b ha hb e => hap4 b a hb ha e.symm
          have HW9 : Hid (lo ≤ w5.heap.size + 1) := Lib.hid (by have := HZ5.out; omega)
          go_upto_region 15 with (at_builtin; refine wpList_appendC_at (w5.alloc (.cells #[.int .i64 1] 2)) rfl (.tmp 55) (.tmp 56) _ rfl 2 iI _ 1 8 Tryz.underlying24 hi0 hu0 hu1 hu2 rfl (by decide) rfl (o75.alloc _) (by simp; exact HW9.out) (some ⟨w5.heap.size, 0, none⟩) 1 1 [.int .i64 1] rfl rfl (HLT.out w5) (by simp [Value.oneCell']) (by unfold maxLen; omega) (by omega) ?_; intro A6 c6 w6 o6 hg6 hb6 hat6)
          have hz6 : w5.heap.size + 1 ≤ w6.heap.size := by have := hg6.size; simpa using this
          have hz45 := HZ5.out
          have kz6 := (kz5.alloc (.cells #[.int .i64 1] 2)).grownT (OwnC.alloc o75 (.cells #[.int .i64 1] 2)) t2 hg6
          have kx6 := (kx5.alloc (.cells #[.int .i64 1] 2)).grownT (OwnC.alloc o75 (.cells #[.int .i64 1] 2)) t2 hg6
          have o46 : OwnC w6 lo w4.heap.size 2 1 A4 (i + 1) c4 ((List.replicate (i + 1) (1 : Int)).map (Value.int .i64)) := hap5.kept (OwnC.alloc o45 (.cells #[.int .i64 1] 2)) (by simp; omega) hg6
          have hap6 : Apart A6 A4 := hap5.next (OwnC.alloc o45 (.cells #[.int .i64 1] 2)) (by simp; omega) hat6
          have hrow7 : ∀ q, (Value.slice A7 i c7).ownBlock = some q → lo ≤ q := by
            intro q hq
            rcases OwnC.form o75 with ⟨rfl, _⟩ | ⟨g3, _, rfl, h1, _⟩
            · cases hq
            · injection hq with hq
              exact hq ▸ h1
          have hs6 : Sv w6 g AB cB bs (b + 13510798882111488) := (hs5.alloc (.cells #[.int .i64 1] 2)).grown hg6 (fun q hq => by have := hrow7 q hq; omega)
          have hgr6 : w.grownBy w6 (some g) := gb_app (gb_al hgr5 (.cells #[.int .i64 1] 2)) hg6 (fun q hq => by have := hrow7 q hq; omega)
          have o66 : OwnC w6 lo w6.heap.size 2 1 A6 (i + 1) c6 ((List.replicate (i + 1) (1 : Int)).map (Value.int .i64)) := by
            rw [List.replicate_succ', List.map_append]; exact o6
          clear kx5 kz5 o45 o75 hs5 hgr5 hz45 hg6 hb6 hat6 o6 hrow7
          go_wp2_with (fail)
          refine ⟨⟨i + 1, A4, c4, A6, c6, by omega, by go_num, rfl, kz6, kx6, o46.mono (Nat.le_refl _) (by have := HZ5.out; omega), o66, fun a b ha hb e => hap6 b a hb ha e.symm, hs6, hgr6, by have := HZ5.out; omega⟩, by simp [intOf]; omega⟩
        · obtain rfl : i = m := by omega
          have dm : decide ((i : Int) < (i : Int)) = false := decide_eq_false (by omega)
          have s2 := kx.c3
          obtain ⟨y0, y1, y2⟩ := kz.c3
          have g0 := kz.frozen 0
          have g1 := kz.frozen 1
          have g2 := kz.frozen 2
          go_wp2_with (fail)
          have k1 := kz.set30 (.int .i64 dd)
          have k2 := k1.set31 (.int .i64 car)
          have k3 := k2.set32 (.slice A3 i c3)
          obtain ⟨r0, r1, r2⟩ := k3.c3
          have hlr : (List.replicate i (1 : Int)).length = i := List.length_replicate
          refine bodyPost_ret (v := .tuple #[.agg #[.int .i64 dd, .int .i64 car, .slice A3 (List.replicate i (1 : Int)).length c3], .slice A7 (afterP (List.replicate i 1) st).length c7]) (by rw [HKN.out.2, hlr]; simp [results, Tryz.results18, go_sem, r0, r1, r2]) rfl ⟨A3, c3, _, A7, c7, rfl, HKN.out.1, ?_, ?_, ?_, ?_⟩
          · show OwnC _ _ _ _ _ _ _ _ _
            rw [hlr]
            exact (((OwnC.farT o3 kz t2 0 _).farT k1 t2 1 _).farT k2 t2 2 _).mono (by omega) (by simp)
          · show OwnC _ _ _ _ _ _ _ _ _
            rw [HKN.out.2, hlr]
            exact (((OwnC.farT o7 kz t2 0 _).farT k1 t2 1 _).farT k2 t2 2 _).mono (by omega) (by simp)
          · exact ((hs.store (by omega) _).store (by omega) _).store (by omega) _
          · exact gb_set (gb_set (gb_set hgr (Nat.le_refl _) _) (Nat.le_refl _) _) (Nat.le_refl _) _

end Go.Proofs.YthjamohaeahipaaGreat
