/- Steps of the proof, joined from several texts: NP NS NM EA DE SJ EB EC ED. -/
import Derived.Test.YtifjdiiafofnpaaDoorZ6
import Derived.Test.YtifjdiiafofnpaaDoorZ4
import Derived.Test.YtifjdiiafofnpaaDoorZ7
import Derived.Test.YtifjdiiafofnpaaDoorZ5
import Derived.Deep.RegionLaw
import Derived.RegionTactic
import Derived.Test.YtifjdiiafofnpaaDoorZ13
import Derived.Lib.Join
import Derived.Shelf.Strings.OnBuilder
import Derived.Test.YtifjdiiafofnpaaDoorZ1
import Derived.Test.YtifjdiiafofnpaaDoorZ11
import Derived.Deep.DeepCutAuto

/- NeedOf: the plain functions. -/
namespace Go.Proofs.YtifjdiiafofnpaaDoor
open Go.RowKit

def sumP (cnt : Bool) : List PieceD → Int → Int
  | [], acc => acc
  | p :: r, acc =>
    if p.kind = 12 then sumP cnt (r.drop p.len.toNat) (wrap64 (acc + wrap64 (p.times * sumP cnt (r.take p.len.toNat) 0)))
    else sumP cnt r (wrap64 (acc + (if cnt then p.times else wrap64 (p.times * takenB p.kind))))
termination_by l => l.length
decreasing_by all_goals (simp; try omega)
def openP (cnt : Bool) : List PieceD → Int → Int
  | [], o => o
  | p :: r, o => if p.kind = 12 then openP cnt (r.drop p.len.toNat) (if p.times = 0 then sumP cnt (r.take p.len.toNat) 0 else o) else openP cnt r o
termination_by l => l.length
decreasing_by all_goals (simp; try omega)
def openPart : List PieceD → List PieceD
  | [] => []
  | p :: r => if p.kind = 12 ∧ p.times = 0 then r.take p.len.toNat else openPart r
abbrev Good (d : Nat) (l : List PieceD) : Prop := (rangeP d l).isSome = true
theorem sumP_nil (cnt : Bool) (acc : Int) : sumP cnt [] acc = acc := by rw [sumP]
theorem sumP_group {cnt : Bool} {p : PieceD} {r : List PieceD} (h : p.kind = 12) (acc : Int) : sumP cnt (p :: r) acc = sumP cnt (r.drop p.len.toNat) (wrap64 (acc + wrap64 (p.times * sumP cnt (r.take p.len.toNat) 0))) := by rw [sumP, if_pos h]
theorem sumP_plain {cnt : Bool} {p : PieceD} {r : List PieceD} (h : p.kind ≠ 12) (acc : Int) : sumP cnt (p :: r) acc = sumP cnt r (wrap64 (acc + (if cnt then p.times else wrap64 (p.times * takenB p.kind)))) := by rw [sumP, if_neg h]
theorem openP_nil (cnt : Bool) (o : Int) : openP cnt [] o = o := by rw [openP]
theorem openP_group {cnt : Bool} {p : PieceD} {r : List PieceD} (h : p.kind = 12) (o : Int) : openP cnt (p :: r) o = openP cnt (r.drop p.len.toNat) (if p.times = 0 then sumP cnt (r.take p.len.toNat) 0 else o) := by rw [openP, if_pos h]
theorem openP_plain {cnt : Bool} {p : PieceD} {r : List PieceD} (h : p.kind ≠ 12) (o : Int) : openP cnt (p :: r) o = openP cnt r o := by rw [openP, if_neg h]
theorem good_plain {d : Nat} {p : PieceD} {r : List PieceD} (h : Good d (p :: r)) (hk : p.kind ≠ 12) : plainP p = true ∧ Good d r := by
  unfold Good at h
  rw [rangeP, if_neg hk] at h
  split at h
  · exact ⟨by assumption, h⟩
  · cases h
theorem good_group {d : Nat} {p : PieceD} {r : List PieceD} (h : Good d (p :: r)) (hk : p.kind = 12) : d < 3 ∧ 1 ≤ p.len ∧ p.len ≤ r.length ∧ 0 ≤ p.times ∧ p.times ≤ 16 ∧ (0 < d → p.times ≠ 0) ∧ Good (d + 1) (r.take p.len.toNat) ∧ Good d (r.drop p.len.toNat) := by
  unfold Good at h ⊢
  rw [rangeP, if_pos hk] at h
  split at h
  · rename_i hg
    have h2 := hg.2
    unfold groupP at h2
    simp only [Bool.and_eq_true, Bool.not_eq_true', Bool.and_eq_false_iff, decide_eq_false_iff_not] at h2
    have h3 := inR_iff.1 h2.1.1
    have h4 := inR_iff.1 h2.2
    split at h
    · cases h
    · rename_i e
      rw [Option.isSome_map] at h
      exact ⟨hg.1, h4.1, h4.2, h3.1, h3.2, fun hd ht => by rcases h2.1.2 with h5 | h5 <;> omega, by rw [e]; rfl, h⟩
  · cases h
theorem good_deep (n d : Nat) (hd : 0 < d) : ∀ l : List PieceD, l.length ≤ n → Good d l → ∀ p ∈ l, ¬ (p.kind = 12 ∧ p.times = 0) := by
  induction n generalizing d with
  | zero => intro l hl _ p hp; have : l = [] := by cases l <;> simp_all
            subst this; simp at hp
  | succ n ih =>
    intro l hl h p hp
    cases l with
    | nil => simp at hp
    | cons q r =>
      simp only [List.length_cons] at hl
      by_cases hk : q.kind = 12
      · obtain ⟨_, h1, h2, _, _, h3, h4, h5⟩ := good_group h hk
        rcases List.mem_cons.1 hp with rfl | hp
        · exact fun e => h3 hd e.2
        · rw [← List.take_append_drop q.len.toNat r] at hp
          rcases List.mem_append.1 hp with hp | hp
          · exact ih (d + 1) (by omega) _ (by simp; omega) h4 p hp
          · exact ih d hd _ (by simp; omega) h5 p hp
      · rcases List.mem_cons.1 hp with rfl | hp
        · exact fun e => hk e.1
        · exact ih d hd _ (by omega) (good_plain h hk).2 p hp
theorem openPart_skip {a b : List PieceD} (h : ∀ p ∈ a, ¬ (p.kind = 12 ∧ p.times = 0)) : openPart (a ++ b) = openPart b := by
  induction a with
  | nil => rfl
  | cons p a ih =>
    rw [List.cons_append, openPart, if_neg (h p (by simp)), ih fun q hq => h q (by simp [hq])]
theorem openP_zero (cnt : Bool) (d n : Nat) : ∀ (l : List PieceD) (o : Int), l.length ≤ n → rangeP d l = some 0 → openP cnt l o = o := by
  induction n with
  | zero => intro l o hl _; have : l = [] := by cases l <;> simp_all
            subst this; exact openP_nil _ _
  | succ n ih =>
    intro l o hl h
    cases l with
    | nil => exact openP_nil _ _
    | cons p r =>
      simp only [List.length_cons] at hl
      by_cases hk : p.kind = 12
      · have hg : Good d (p :: r) := by unfold Good; rw [h]; rfl
        obtain ⟨h0, _, _, _, _, _, h4, h5⟩ := good_group hg hk
        have h6 := h
        rw [rangeP, if_pos hk] at h6
        split at h6
        · split at h6
          · cases h6
          · rw [Option.map_eq_some_iff] at h6
            obtain ⟨o', ho', e⟩ := h6
            have ht : p.times ≠ 0 := by intro ht; rw [if_pos ht] at e; omega
            rw [if_neg ht] at e
            rw [openP_group hk, if_neg ht]
            exact ih _ _ (by simp; omega) (by rw [ho']; congr 1; omega)
        · cases h6
      · rw [openP_plain hk]
        rw [rangeP, if_neg hk] at h
        split at h
        · exact ih _ _ (by omega) h
        · cases h
theorem openP_part (cnt : Bool) (n : Nat) : ∀ l : List PieceD, l.length ≤ n → okP (rangeP 0 l) = true → openP cnt l 0 = sumP cnt (openPart l) 0 := by
  induction n with
  | zero => intro l hl _; have : l = [] := by cases l <;> simp_all
            subst this; rw [openP_nil, openPart, sumP_nil]
  | succ n ih =>
    intro l hl h
    cases l with
    | nil => rw [openP_nil, openPart, sumP_nil]
    | cons p r =>
      simp only [List.length_cons] at hl
      have hg : Good 0 (p :: r) := by
        unfold Good
        cases e : rangeP 0 (p :: r) with
        | none => rw [e] at h; cases h
        | some o => rfl
      by_cases hk : p.kind = 12
      · obtain ⟨h0, _, _, _, _, _, h4, h5⟩ := good_group hg hk
        have h6 := h
        rw [rangeP, if_pos hk] at h6
        split at h6
        · split at h6
          · cases h6
          · cases ho : rangeP 0 (r.drop p.len.toNat) with
            | none => rw [ho] at h6; cases h6
            | some o =>
              rw [ho] at h6
              have h7 : (if p.times = 0 then 1 else 0) + o ≤ 1 := of_decide_eq_true h6
              rw [openP_group hk]
              by_cases ht : p.times = 0
              · rw [if_pos ht] at h7 ⊢
                rw [openP_zero cnt 0 n _ _ (by simp; omega) (by rw [ho]; congr 1; omega), openPart, if_pos ⟨hk, ht⟩]
              · rw [if_neg ht] at h7 ⊢
                rw [openPart, if_neg (fun e => ht e.2)]
                have e2 := openPart_skip (b := r.drop p.len.toNat) (good_deep r.length 1 (by omega) (r.take p.len.toNat) (by simp; omega) h4)
                rw [List.take_append_drop] at e2
                rw [e2]
                exact ih _ (by simp; omega) (by rw [ho]; exact decide_eq_true (by omega))
        · cases h6
      · rw [openP_plain hk, openPart, if_neg (fun e => hk e.1)]
        rw [rangeP, if_neg hk] at h
        split at h
        · exact ih _ (by omega) h
        · cases h
theorem openPart_good (n : Nat) : ∀ l : List PieceD, l.length ≤ n → Good 0 l → ∃ d, Good d (openPart l) := by
  induction n with
  | zero => intro l hl _; have : l = [] := by cases l <;> simp_all
            subst this; exact ⟨0, by rw [openPart]; unfold Good; rw [rangeP_nil]; rfl⟩
  | succ n ih =>
    intro l hl h
    cases l with
    | nil => exact ⟨0, by rw [openPart]; unfold Good; rw [rangeP_nil]; rfl⟩
    | cons p r =>
      simp only [List.length_cons] at hl
      by_cases hk : p.kind = 12
      · obtain ⟨h0, _, _, _, _, _, h4, h5⟩ := good_group h hk
        by_cases ht : p.times = 0
        · rw [openPart, if_pos ⟨hk, ht⟩]; exact ⟨1, h4⟩
        · rw [openPart, if_neg (fun e => ht e.2)]
          have e2 := openPart_skip (b := r.drop p.len.toNat) (good_deep r.length 1 (by omega) (r.take p.len.toNat) (by simp; omega) h4)
          rw [List.take_append_drop] at e2
          rw [e2]
          exact ih _ (by simp; omega) h5
      · rw [openPart, if_neg (fun e => hk e.1)]
        exact ih _ (by omega) (good_plain h hk).2
/-- From k on: the list is good at this depth. -/
theorem good_at_plain {d k : Nat} {ps : List PieceD} {p : PieceD} (h : Good d (ps.drop k)) (hp : ps[k]? = some p) (hk : p.kind ≠ 12) : plainP p = true ∧ Good d (ps.drop (k + 1)) := by
  rw [drop_cons hp] at h; exact good_plain h hk
theorem good_at_group {d k : Nat} {ps : List PieceD} {p : PieceD} (h : Good d (ps.drop k)) (hp : ps[k]? = some p) (hk : p.kind = 12) : ∃ n : Nat, p.len = (n : Int) ∧ 1 ≤ n ∧ k + 1 + n ≤ ps.length ∧ d < 3 ∧ (0 < d → p.times ≠ 0) ∧ 0 ≤ p.times ∧ p.times ≤ 16 ∧ Good (d + 1) (segP ps (k + 1) (k + 1 + n)) ∧ Good d (ps.drop (k + 1 + n)) ∧
    (∀ cnt acc, sumP cnt (ps.drop k) acc = sumP cnt (ps.drop (k + 1 + n)) (wrap64 (acc + wrap64 (p.times * sumP cnt (segP ps (k + 1) (k + 1 + n)) 0)))) ∧ (∀ cnt o, openP cnt (ps.drop k) o = openP cnt (ps.drop (k + 1 + n)) (if p.times = 0 then sumP cnt (segP ps (k + 1) (k + 1 + n)) 0 else o)) := by
  rw [drop_cons hp] at h
  have hkl := (List.getElem?_eq_some_iff.1 hp).1
  obtain ⟨h0, h1, h2, h3, h4, h5, h6, h7⟩ := good_group h hk
  rw [List.length_drop] at h2
  have e1 : (ps.drop (k + 1)).take p.len.toNat = segP ps (k + 1) (k + 1 + p.len.toNat) := by unfold segP; congr 1; omega
  have e2 : (ps.drop (k + 1)).drop p.len.toNat = ps.drop (k + 1 + p.len.toNat) := by rw [List.drop_drop]
  rw [e1] at h6
  rw [e2] at h7
  refine ⟨p.len.toNat, by omega, by omega, by omega, h0, h5, h3, h4, h6, h7, fun cnt acc => ?_, fun cnt o => ?_⟩
  · rw [drop_cons hp, sumP_group hk, e1, e2]
  · rw [drop_cons hp, openP_group hk, e1, e2]
theorem sum_at_plain {k : Nat} {ps : List PieceD} {p : PieceD} (hp : ps[k]? = some p) (hk : p.kind ≠ 12) (cnt : Bool) (acc : Int) : sumP cnt (ps.drop k) acc = sumP cnt (ps.drop (k + 1)) (wrap64 (acc + (if cnt then p.times else wrap64 (p.times * takenB p.kind)))) := by
  rw [drop_cons hp, sumP_plain hk]

end Go.Proofs.YtifjdiiafofnpaaDoor

/- NeedOf, the given side. -/
namespace Go.Proofs.YtifjdiiafofnpaaDoor
open Go.RowKit

theorem good_bound (n : Nat) : ∀ (d : Nat) (l : List PieceD), l.length ≤ n → Good d l → ∀ (k : Nat) (p : PieceD), l[k]? = some p → p.kind = 12 → 1 ≤ p.len ∧ (k : Int) + 1 + p.len ≤ l.length := by
  induction n with
  | zero => intro d l hl _ k p hp; have : l = [] := by cases l <;> simp_all
            subst this; simp at hp
  | succ n ih =>
    intro d l hl h k p hp hk
    cases l with
    | nil => simp at hp
    | cons q r =>
      simp only [List.length_cons] at hl ⊢
      by_cases hq : q.kind = 12
      · obtain ⟨_, h1, h2, _, _, h3, h4, h5⟩ := good_group h hq
        cases k with
        | zero => simp at hp; subst hp; omega
        | succ k =>
          simp only [List.getElem?_cons_succ] at hp
          by_cases hkn : k < q.len.toNat
          · have := ih (d + 1) (r.take q.len.toNat) (by simp; omega) h4 k p (by rw [List.getElem?_take_of_lt hkn]; exact hp) hk
            have hl2 : (r.take q.len.toNat).length ≤ r.length := by simp; omega
            omega
          · have := ih d (r.drop q.len.toNat) (by simp; omega) h5 (k - q.len.toNat) p (by rw [List.getElem?_drop, show q.len.toNat + (k - q.len.toNat) = k by omega]; exact hp) hk
            have hl2 : (r.drop q.len.toNat).length = r.length - q.len.toNat := by simp
            omega
      · cases k with
        | zero => simp at hp; subst hp; exact absurd hk hq
        | succ k =>
          have := ih d r (by omega) (good_plain h hq).2 k p (by simpa using hp) hk
          omega


end Go.Proofs.YtifjdiiafofnpaaDoor

/- measure, eachPiece and the closure between them. -/
namespace Go.Proofs.YtifjdiiafofnpaaDoor
open Go.RowKit

def needP (ps : List PieceD) : Int × Int × Bool := if piecesB ps then (sumP false ps 0, sumP false (openPart ps) 0, true) else (0, 0, false)
theorem piecesB_good {ps : List PieceD} (h : piecesB ps = true) : ps.length ≤ 24 ∧ okP (rangeP 0 ps) = true ∧ Good 0 ps := by
  unfold piecesB at h
  simp only [Bool.and_eq_true, decide_eq_true_eq] at h
  refine ⟨h.1, h.2, ?_⟩
  unfold Good
  cases e : rangeP 0 ps with
  | none => rw [e] at h; cases h.2
  | some o => rfl
theorem openPart_length (ps : List PieceD) : (openPart ps).length ≤ ps.length := by
  induction ps with
  | nil => simp [openPart]
  | cons p r ih =>
    rw [openPart]
    split
    · simp; omega
    · simp; omega


end Go.Proofs.YtifjdiiafofnpaaDoor

/- ExpandPieces: the plain functions. -/
namespace Go.Proofs.YtifjdiiafofnpaaDoor
open Go Go.RowKit

def rep (n : Int) (xs : List Int) : List Int := (List.replicate n.toNat xs).flatten
theorem rep_length (n : Int) (xs : List Int) : (rep n xs).length = n.toNat * xs.length := by
  unfold rep
  generalize n.toNat = k
  induction k with
  | zero => simp
  | succ k ih => rw [List.replicate_succ, List.flatten_cons, List.length_append, ih, Nat.succ_mul]; omega
theorem rep_zero {n : Int} (h : n ≤ 0) (xs : List Int) : rep n xs = [] := by
  have : n.toNat = 0 := by omega
  rw [rep, this]; rfl
theorem rep_snoc (k : Nat) (xs : List Int) : rep ((k : Int) + 1) xs = rep (k : Int) xs ++ xs := by
  have e1 : ((k : Int) + 1).toNat = k + 1 := by omega
  have e2 : (k : Int).toNat = k := by omega
  rw [rep, rep, e1, e2, List.replicate_succ', List.flatten_append]
  simp
def expP (o : Int) : List PieceD → List Int
  | [] => []
  | p :: r =>
    if p.kind = 12 then rep (if p.times = 0 then o else p.times) (expP o (r.take p.len.toNat)) ++ expP o (r.drop p.len.toNat)
    else rep p.times [p.kind] ++ expP o r
termination_by l => l.length
decreasing_by all_goals (simp; try omega)
theorem expP_nil (o : Int) : expP o [] = [] := by rw [expP]
theorem expP_group {o : Int} {p : PieceD} {r : List PieceD} (h : p.kind = 12) : expP o (p :: r) = rep (if p.times = 0 then o else p.times) (expP o (r.take p.len.toNat)) ++ expP o (r.drop p.len.toNat) := by rw [expP, if_pos h]
theorem expP_plain {o : Int} {p : PieceD} {r : List PieceD} (h : p.kind ≠ 12) : expP o (p :: r) = rep p.times [p.kind] ++ expP o r := by rw [expP, if_neg h]
theorem exp_at_plain {k : Nat} {ps : List PieceD} {p : PieceD} (hp : ps[k]? = some p) (hk : p.kind ≠ 12) (o : Int) : expP o (ps.drop k) = rep p.times [p.kind] ++ expP o (ps.drop (k + 1)) := by
  rw [drop_cons hp, expP_plain hk]
theorem exp_at_group {k n : Nat} {ps : List PieceD} {p : PieceD} (hp : ps[k]? = some p) (hk : p.kind = 12) (hn : p.len = (n : Int)) (o : Int) : expP o (ps.drop k) = rep (if p.times = 0 then o else p.times) (expP o (segP ps (k + 1) (k + 1 + n))) ++ expP o (ps.drop (k + 1 + n)) := by
  rw [drop_cons hp, expP_group hk, hn, Int.toNat_natCast, List.drop_drop]
  have e : segP ps (k + 1) (k + 1 + n) = (ps.drop (k + 1)).take n := by rw [segP, Nat.add_sub_cancel_left]
  rw [e]
theorem expP_deep (n d : Nat) (hd : 0 < d) (o : Int) : ∀ l : List PieceD, l.length ≤ n → Good d l → expP o l = expP 0 l := by
  induction n generalizing d with
  | zero => intro l hl _; have : l = [] := by cases l <;> simp_all
            subst this; rw [expP_nil, expP_nil]
  | succ n ih =>
    intro l hl h
    cases l with
    | nil => rw [expP_nil, expP_nil]
    | cons p r =>
      simp only [List.length_cons] at hl
      by_cases hk : p.kind = 12
      · obtain ⟨_, h1, h2, _, _, h3, h4, h5⟩ := good_group h hk
        rw [expP_group hk, expP_group hk, if_neg (h3 hd), if_neg (h3 hd), ih (d + 1) (by omega) _ (by simp; omega) h4, ih d hd _ (by simp; omega) h5]
      · rw [expP_plain hk, expP_plain hk, ih d hd _ (by omega) (good_plain h hk).2]
def roomOf : Nat → Nat
  | 0 => 262144
  | 1 => 16384
  | 2 => 1024
  | _ => 64
theorem roomOf_step {d : Nat} (h : d < 3) : roomOf d = 16 * roomOf (d + 1) := by
  rcases (by omega : d = 0 ∨ d = 1 ∨ d = 2) with e | e | e <;> subst e <;> rfl
theorem roomOf_ge (d : Nat) : 64 ≤ roomOf d := by unfold roomOf; split <;> omega
theorem roomOf_le (d : Nat) : roomOf d ≤ 262144 := by unfold roomOf; split <;> omega
theorem times_of {p : PieceD} (h : plainP p = true) : 1 ≤ p.times ∧ p.times ≤ 16 ∧ p.len = 0 ∧ isStitchB p.kind = true := by
  unfold plainP at h
  simp only [Bool.and_eq_true, decide_eq_true_eq] at h
  obtain ⟨⟨h1, h2⟩, h3⟩ := h
  have := inR_iff.1 h2
  exact ⟨this.1, this.2, h3, h1⟩
theorem expP_small (n : Nat) (o : Int) (ho : o ≤ 16) : ∀ (d : Nat) (l : List PieceD), l.length ≤ n → Good d l → (expP o l).length ≤ l.length * roomOf d := by
  induction n with
  | zero => intro d l hl _; have : l = [] := by cases l <;> simp_all
            subst this; rw [expP_nil]; simp
  | succ n ih =>
    intro d l hl h
    cases l with
    | nil => rw [expP_nil]; simp
    | cons p r =>
      simp only [List.length_cons] at hl
      by_cases hk : p.kind = 12
      · obtain ⟨h0, h1, h2, h8, h9, h3, h4, h5⟩ := good_group h hk
        have i1 := ih (d + 1) (r.take p.len.toNat) (by simp; omega) h4
        have i2 := ih d (r.drop p.len.toNat) (by simp; omega) h5
        have l1 : (r.take p.len.toNat).length + (r.drop p.len.toNat).length = r.length := by rw [← List.length_append, List.take_append_drop]
        rw [expP_group hk, List.length_append, rep_length, List.length_cons, roomOf_step h0] at *
        have l2 : (if p.times = 0 then o else p.times).toNat ≤ 16 := by split <;> omega
        have l3 := Nat.mul_le_mul l2 i1
        have l4 : r.length * (16 * roomOf (d + 1)) = (r.take p.len.toNat).length * (16 * roomOf (d + 1)) + (r.drop p.len.toNat).length * (16 * roomOf (d + 1)) := by rw [← Nat.add_mul, l1]
        have l5 : 16 * ((r.take p.len.toNat).length * roomOf (d + 1)) = (r.take p.len.toNat).length * (16 * roomOf (d + 1)) := by rw [Nat.mul_left_comm]
        have l6 : (r.length + 1) * (16 * roomOf (d + 1)) = r.length * (16 * roomOf (d + 1)) + 16 * roomOf (d + 1) := by rw [Nat.add_mul, Nat.one_mul]
        omega
      · obtain ⟨hp, hg⟩ := good_plain h hk
        obtain ⟨t1, t2, _⟩ := times_of hp
        have i1 := ih d r (by omega) hg
        have hr := roomOf_ge d
        rw [expP_plain hk, List.length_append, rep_length]
        simp only [List.length_cons, List.length_nil]
        rw [Nat.add_mul, Nat.one_mul]
        omega
theorem takenB_le (k : Int) (h : isStitchB k = true) : 0 ≤ takenB k ∧ takenB k ≤ 4 := by
  have h1 := inR_iff.1 h
  rcases (by omega : k = 1 ∨ k = 2 ∨ k = 3 ∨ k = 4 ∨ k = 5 ∨ k = 6 ∨ k = 7 ∨ k = 8 ∨ k = 9 ∨ k = 10 ∨ k = 11) with e | e | e | e | e | e | e | e | e | e | e <;> subst e <;> decide
theorem sumP_small (cnt : Bool) (n : Nat) : ∀ (d : Nat) (l : List PieceD) (acc : Int), l.length ≤ n → n ≤ 100 → Good d l → 0 ≤ acc → acc + ((l.length * roomOf d : Nat) : Int) ≤ 1000000000000000 → acc ≤ sumP cnt l acc ∧ sumP cnt l acc ≤ acc + ((l.length * roomOf d : Nat) : Int) := by
  induction n with
  | zero => intro d l acc hl _ _ h0 _; have : l = [] := by cases l <;> simp_all
            subst this; rw [sumP_nil]; simp
  | succ n ih =>
    intro d l acc hl h100 h h0 h1
    cases l with
    | nil => rw [sumP_nil]; simp
    | cons p r =>
      simp only [List.length_cons] at hl h1 ⊢
      rw [Nat.add_mul, Nat.one_mul] at h1 ⊢
      have hr := roomOf_ge d
      by_cases hk : p.kind = 12
      · obtain ⟨hd, k1, k2, k8, k9, _, h4, h5⟩ := good_group h hk
        have l1 : (r.take p.len.toNat).length + (r.drop p.len.toNat).length = r.length := by rw [← List.length_append, List.take_append_drop]
        have m1 := Nat.mul_le_mul (show (r.take p.len.toNat).length ≤ 100 by simp; omega) (roomOf_le (d + 1))
        obtain ⟨s0, s1⟩ := ih (d + 1) (r.take p.len.toNat) 0 (by simp; omega) (by omega) h4 (by omega) (by omega)
        have l4 : r.length * roomOf d = (r.take p.len.toNat).length * roomOf d + (r.drop p.len.toNat).length * roomOf d := by rw [← Nat.add_mul, l1]
        have l5 : (r.take p.len.toNat).length * roomOf d = 16 * ((r.take p.len.toNat).length * roomOf (d + 1)) := by rw [roomOf_step hd, Nat.mul_left_comm]
        rw [sumP_group hk]
        have hi := fun a x y => ih d (r.drop p.len.toNat) a (by simp; omega) (by omega) h5 x y
        generalize sumP cnt (r.take p.len.toNat) 0 = S at s0 s1 ⊢
        generalize (r.take p.len.toNat).length * roomOf (d + 1) = X at *
        have t1 := Int.mul_le_mul_of_nonneg_right k9 s0
        have t0 := Int.mul_nonneg k8 s0
        generalize p.times * S = Z at t0 t1 ⊢
        have w1 : wrap64 Z = Z := IntWalk.wrap64_in _ ⟨by omega, by omega⟩
        have w2 : wrap64 (acc + Z) = acc + Z := IntWalk.wrap64_in _ ⟨by omega, by omega⟩
        rw [w1, w2]
        have := hi (acc + Z) (by omega) (by omega)
        omega
      · obtain ⟨hp, hg⟩ := good_plain h hk
        obtain ⟨t1, t2, _, t4⟩ := times_of hp
        obtain ⟨k1, k2⟩ := takenB_le _ t4
        rw [sumP_plain hk]
        have hi := fun a x y => ih d r a (by omega) (by omega) hg x y
        have hv : 0 ≤ (if cnt then p.times else wrap64 (p.times * takenB p.kind)) ∧ (if cnt then p.times else wrap64 (p.times * takenB p.kind)) ≤ 64 := by
          split
          · omega
          · have z1 := Int.mul_le_mul t2 k2 k1 (by omega)
            have z0 := Int.mul_nonneg (show 0 ≤ p.times by omega) k1
            generalize p.times * takenB p.kind = Z at z0 z1 ⊢
            rw [show wrap64 Z = Z from IntWalk.wrap64_in _ ⟨by omega, by omega⟩]
            omega
        generalize (if cnt then p.times else wrap64 (p.times * takenB p.kind)) = v at hv ⊢
        rw [show wrap64 (acc + v) = acc + v from IntWalk.wrap64_in _ ⟨by omega, by omega⟩]
        have := hi (acc + v) (by omega) (by omega)
        omega
/-- How often the open group is made. -/
def expT (need cols each : Int) : Int := if need < cols ∧ 0 < each then (cols - need).tdiv each else 0
theorem expT_range {need cols each : Int} (h0 : 0 ≤ need) (h8 : cols ≤ 8) : 0 ≤ expT need cols each ∧ expT need cols each ≤ 8 := by
  unfold expT
  split
  · rename_i h
    rw [Int.tdiv_eq_ediv_of_nonneg (by omega)]
    have h1 := Int.ediv_nonneg (show 0 ≤ cols - need by omega) (show 0 ≤ each by omega)
    have h2 := Int.ediv_le_self each (show 0 ≤ cols - need by omega)
    omega
  · omega
def needOf (ps : List PieceD) : Int := sumP false ps 0
def eachOf (ps : List PieceD) : Int := sumP false (openPart ps) 0
def timesOf (ps : List PieceD) (cols : Int) : Int := expT (needOf ps) cols (eachOf ps)
def exCode (ps : List PieceD) (cols : Int) : Int :=
  if piecesB ps then
    if inR cols 1 8 then
      if needOf ps + timesOf ps cols * eachOf ps = cols then
        if sumP true ps 0 + timesOf ps cols * sumP true (openPart ps) 0 ≤ 16 then 0 else 5
      else 10
    else 2
  else 1
def exRes (ps : List PieceD) (cols : Int) : List Int := if exCode ps cols = 0 then expP (timesOf ps cols) ps else []
theorem ex_err {ps : List PieceD} {cols k : Int} (e : exCode ps cols = k) (hk : k ≠ 0) : exRes ps cols = [] ∧ exCode ps cols = k := ⟨by rw [exRes, if_neg (by rw [e]; exact hk)], e⟩
theorem ex_ok {ps : List PieceD} {cols : Int} (e : exCode ps cols = 0) : exRes ps cols = expP (timesOf ps cols) ps ∧ exCode ps cols = 0 := ⟨by rw [exRes, if_pos e], e⟩
theorem sums_small {ps : List PieceD} (h : piecesB ps = true) (cnt : Bool) : (0 ≤ sumP cnt ps 0 ∧ sumP cnt ps 0 ≤ 30000000) ∧ (0 ≤ sumP cnt (openPart ps) 0 ∧ sumP cnt (openPart ps) 0 ≤ 30000000) := by
  obtain ⟨h24, _, hg⟩ := piecesB_good h
  obtain ⟨d, hd⟩ := openPart_good ps.length ps (Nat.le_refl _) hg
  have hpl := openPart_length ps
  have m1 := Nat.mul_le_mul h24 (roomOf_le 0)
  have m2 := Nat.mul_le_mul (show (openPart ps).length ≤ 24 by omega) (roomOf_le d)
  have s1 := sumP_small cnt ps.length 0 ps 0 (Nat.le_refl _) (by omega) hg (by omega) (by omega)
  have s2 := sumP_small cnt ps.length d (openPart ps) 0 hpl (by omega) hd (by omega) (by omega)
  omega
theorem exRes_length (ps : List PieceD) (cols : Int) : (exRes ps cols).length ≤ 7000000 := by
  unfold exRes
  split
  · rename_i h
    have hv : piecesB ps = true := by
      cases hv : piecesB ps
      · rw [exCode, hv] at h; simp at h
      · rfl
    have hc : inR cols 1 8 = true := by
      cases hc : inR cols 1 8
      · rw [exCode, hv, hc] at h; simp at h
      · rfl
    obtain ⟨h24, _, hg⟩ := piecesB_good hv
    have ht := expT_range (each := eachOf ps) (sums_small hv false).1.1 (inR_iff.1 hc).2
    have := expP_small ps.length (timesOf ps cols) (by unfold timesOf needOf; omega) 0 ps (Nat.le_refl _) hg
    have m1 := Nat.mul_le_mul h24 (roomOf_le 0)
    omega
  · simp

end Go.Proofs.YtifjdiiafofnpaaDoor

/- Texts of pieces, plain. -/
namespace Go.Proofs.YtifjdiiafofnpaaDoor
open Go Go.RowKit

def joinB (xs : List ByteArray) : ByteArray := ⟨(Lib.join (xs.map (·.data.toList)) [32]).toArray⟩
/-- What stands behind the parts so far, ahead of the next one. -/
def sepB (xs : List ByteArray) : ByteArray := if joinB xs = ⟨#[]⟩ then ⟨#[]⟩ else joinB xs ++ ⟨#[32]⟩
theorem ba_nil (a : ByteArray) : a ++ ⟨#[]⟩ = a := by
  apply ByteArray.ext
  simp
theorem ba_size (a : ByteArray) : a.size = a.data.toList.length := by rw [Array.length_toList]; rfl
theorem ba_isEmpty {t : ByteArray} (h : t = ⟨#[]⟩) : t.toList.isEmpty = true := by rw [h, ByteArray.toList_eq]; rfl
theorem ba_notEmpty {t : ByteArray} (h : t ≠ ⟨#[]⟩) : t.toList.isEmpty = false := by
  rw [ByteArray.toList_eq]
  cases hl : t.data.toList with
  | nil =>
    refine absurd (ByteArray.ext ?_) h
    exact Array.toList_inj.1 hl
  | cons => rfl
theorem joinB_size (xs : List ByteArray) : (joinB xs).size = (Lib.join (xs.map (·.data.toList)) [32]).length := by rw [ba_size]; rfl
theorem joinB_nil : joinB [] = ⟨#[]⟩ := rfl
theorem joinB_snoc (xs : List ByteArray) (x : ByteArray) (h : ∀ y ∈ xs, 0 < y.size) : joinB (xs ++ [x]) = sepB xs ++ x := by
  cases xs with
  | nil =>
    rw [sepB, if_pos joinB_nil, List.nil_append]
    apply ByteArray.ext
    simp [joinB, Lib.join_one]
  | cons y ys =>
    have hne : joinB (y :: ys) ≠ ⟨#[]⟩ := by
      intro e
      have h1 := joinB_size (y :: ys)
      have h2 := h y (by simp)
      rw [e, List.map_cons, Lib.join_cons, List.length_append, ← ba_size] at h1
      have h3 : (⟨#[]⟩ : ByteArray).size = 0 := rfl
      omega
    rw [sepB, if_neg hne]
    apply ByteArray.ext
    simp [joinB, Lib.join_cons, Lib.joinTail, List.append_assoc]
def tmT (none t : Int) : ByteArray := if t = none then ⟨#[]⟩ else decT t.toNat
theorem tmT_size (a b : Int) : (tmT a b).size ≤ 2 := by
  unfold tmT
  split
  · show 0 ≤ 2; omega
  · exact (decT_size _).2
def oneT (p : PieceD) : ByteArray := ⟨#[symB p.kind.toNat]⟩ ++ tmT 1 p.times
def grpT (p : PieceD) (i : ByteArray) : ByteArray := (((⟨#[40]⟩ : ByteArray) ++ i) ++ ⟨#[41, 42]⟩) ++ tmT 0 p.times
theorem oneT_size (p : PieceD) : 1 ≤ (oneT p).size ∧ (oneT p).size ≤ 3 := by
  have h1 := tmT_size 1 p.times
  have h2 : (⟨#[symB p.kind.toNat]⟩ : ByteArray).size = 1 := rfl
  unfold oneT
  rw [ByteArray.size_append]
  omega
theorem grpT_size (p : PieceD) (i : ByteArray) : 1 ≤ (grpT p i).size ∧ (grpT p i).size ≤ i.size + 5 := by
  have h1 := tmT_size 0 p.times
  have h2 : (⟨#[40]⟩ : ByteArray).size = 1 := rfl
  have h3 : (⟨#[41, 42]⟩ : ByteArray).size = 2 := rfl
  unfold grpT
  simp only [ByteArray.size_append]
  omega
def partsP : List PieceD → List ByteArray
  | [] => []
  | p :: r =>
    if p.kind = 12 then grpT p (joinB (partsP (r.take p.len.toNat))) :: partsP (r.drop p.len.toNat)
    else oneT p :: partsP r
termination_by l => l.length
decreasing_by all_goals (simp; try omega)
def txtP (ps : List PieceD) : ByteArray := joinB (partsP ps)
theorem partsP_nil : partsP [] = [] := by rw [partsP]
theorem partsP_group {p : PieceD} {r : List PieceD} (h : p.kind = 12) : partsP (p :: r) = grpT p (txtP (r.take p.len.toNat)) :: partsP (r.drop p.len.toNat) := by rw [partsP, if_pos h]; rfl
theorem partsP_plain {p : PieceD} {r : List PieceD} (h : p.kind ≠ 12) : partsP (p :: r) = oneT p :: partsP r := by rw [partsP, if_neg h]
theorem parts_at_plain {k : Nat} {ps : List PieceD} {p : PieceD} (hp : ps[k]? = some p) (hk : p.kind ≠ 12) : partsP (ps.drop k) = oneT p :: partsP (ps.drop (k + 1)) := by
  rw [drop_cons hp, partsP_plain hk]
theorem parts_at_group {k n : Nat} {ps : List PieceD} {p : PieceD} (hp : ps[k]? = some p) (hk : p.kind = 12) (hn : p.len = (n : Int)) : partsP (ps.drop k) = grpT p (txtP (segP ps (k + 1) (k + 1 + n))) :: partsP (ps.drop (k + 1 + n)) := by
  rw [drop_cons hp, partsP_group hk, hn, Int.toNat_natCast, List.drop_drop]
  have e : segP ps (k + 1) (k + 1 + n) = (ps.drop (k + 1)).take n := by rw [segP, Nat.add_sub_cancel_left]
  rw [e]
theorem partsP_pos (n : Nat) : ∀ l : List PieceD, l.length ≤ n → ∀ y ∈ partsP l, 0 < y.size := by
  induction n with
  | zero => intro l hl; have : l = [] := by cases l <;> simp_all
            subst this; rw [partsP_nil]; intro y hy; cases hy
  | succ n ih =>
    intro l hl
    cases l with
    | nil => rw [partsP_nil]; intro y hy; cases hy
    | cons p r =>
      simp only [List.length_cons] at hl
      intro y hy
      by_cases hk : p.kind = 12
      · rw [partsP_group hk] at hy
        rcases List.mem_cons.1 hy with rfl | hy
        · exact (grpT_size _ _).1
        · exact ih _ (by simp; omega) y hy
      · rw [partsP_plain hk] at hy
        rcases List.mem_cons.1 hy with rfl | hy
        · exact (oneT_size _).1
        · exact ih _ (by omega) y hy
theorem join_le (xs : List ByteArray) : (joinB xs).size ≤ (xs.map ByteArray.size).sum + xs.length := by
  rw [joinB_size]
  cases xs with
  | nil => simp [Lib.join_nil]
  | cons y ys =>
    have e : Lib.lens ((y :: ys).map (·.data.toList)) = ((y :: ys).map ByteArray.size).sum := by
      unfold Lib.lens
      rw [List.map_map]
      exact congrArg List.sum (List.map_congr_left fun z _ => (ba_size z).symm)
    rw [← e, List.map_cons, Lib.join_length, List.length_map, List.length_cons]
    simp only [List.length_cons, List.length_nil]
    omega
theorem parts_small (n : Nat) : ∀ (d : Nat) (l : List PieceD), l.length ≤ n → Good d l → ((partsP l).map ByteArray.size).sum + (partsP l).length ≤ 8 * l.length := by
  induction n with
  | zero => intro d l hl _; have : l = [] := by cases l <;> simp_all
            subst this; rw [partsP_nil]; simp
  | succ n ih =>
    intro d l hl h
    cases l with
    | nil => rw [partsP_nil]; simp
    | cons p r =>
      simp only [List.length_cons] at hl
      by_cases hk : p.kind = 12
      · obtain ⟨_, h1, h2, _, _, _, h4, h5⟩ := good_group h hk
        have i1 := ih (d + 1) (r.take p.len.toNat) (by simp; omega) h4
        have i2 := ih d (r.drop p.len.toNat) (by simp; omega) h5
        have l1 : (r.take p.len.toNat).length + (r.drop p.len.toNat).length = r.length := by rw [← List.length_append, List.take_append_drop]
        have j1 := join_le (partsP (r.take p.len.toNat))
        have g1 := (grpT_size p (txtP (r.take p.len.toNat))).2
        have g2 : (txtP (r.take p.len.toNat)).size = (joinB (partsP (r.take p.len.toNat))).size := rfl
        rw [partsP_group hk, List.map_cons, List.sum_cons, List.length_cons, List.length_cons]
        omega
      · have i1 := ih d r (by omega) (good_plain h hk).2
        have g1 := (oneT_size p).2
        rw [partsP_plain hk, List.map_cons, List.sum_cons, List.length_cons, List.length_cons]
        omega
theorem txt_small {d : Nat} {l : List PieceD} (h : Good d l) : (txtP l).size ≤ 8 * l.length ∧ (partsP l).length ≤ 8 * l.length := by
  have h1 := parts_small l.length d l (Nat.le_refl _) h
  have h2 := join_le (partsP l)
  have h3 : (txtP l).size = (joinB (partsP l)).size := rfl
  omega
/-- The parts until now, and those to come. -/
theorem parts_size {xs ys zs : List ByteArray} (h : zs = xs ++ ys) : (joinB xs).size ≤ (zs.map ByteArray.size).sum + zs.length := by
  have h1 := join_le xs
  rw [h, List.map_append, List.sum_append, List.length_append]
  omega
theorem txt_sizes {d : Nat} {ps : List PieceD} (h : Good d ps) (hl : ps.length ≤ 100) {xs ys : List ByteArray} (he : partsP ps = xs ++ ys) : (joinB xs).size ≤ 800 ∧ (sepB xs).size ≤ 801 := by
  have h1 := parts_small ps.length d ps (Nat.le_refl _) h
  have h2 := parts_size he
  have h3 : (joinB xs).size ≤ 800 := by omega
  refine ⟨h3, ?_⟩
  unfold sepB
  split
  · show 0 ≤ 801; omega
  · rw [ByteArray.size_append]
    have : (⟨#[32]⟩ : ByteArray).size = 1 := rfl
    omega
theorem sep_next {ps : List PieceD} {xs ys : List ByteArray} (he : partsP ps = xs ++ ys) (x : ByteArray) : joinB (xs ++ [x]) = sepB xs ++ x :=
  joinB_snoc xs x fun y hy => partsP_pos ps.length ps (Nat.le_refl _) y (by rw [he]; exact List.mem_append_left _ hy)
/-- The text of pieces: none where they are not valid. -/
def piecesT (ps : List PieceD) : ByteArray := if piecesB ps then txtP ps else ⟨#[]⟩

end Go.Proofs.YtifjdiiafofnpaaDoor

/- Contracts of the library, laid. -/
namespace Go.Proofs.YtifjdiiafofnpaaDoor
open Go Go.RowKit

def shelf_lays156_ren : Go.Shelf.Ren := ⟨fun | 156 => 74 | 165 => 96 | 166 => 97 | 169 => 98 | 240 => 111 | 241 => 112 | 276 => 135 | 277 => 136 | n => n, fun | 31 => 80 | 9 => 9 | 3 => 3 | 4 => 4 | 0 => 0 | 20 => 20 | 72 => 114 | 76 => 118 | 70 => 112 | 37 => 110 | 75 => 117 | 127 => 130 | 164 => 151 | 5 => 5 | 80 => 109 | n => n, fun | n => n⟩
theorem shelf_lays156 : Go.Proofs.Lays.n156 Tryd.prog shelf_lays156_ren := {
  mixed := by kernel_rfl
  f156 := Tryd.func74.trans (congrArg some (by kernel_rfl))
  f165 := Tryd.func96.trans (congrArg some (by kernel_rfl))
  f166 := Tryd.func97.trans (congrArg some (by kernel_rfl))
  f169 := Tryd.func98.trans (congrArg some (by kernel_rfl))
  f240 := Tryd.func111.trans (congrArg some (by kernel_rfl))
  f241 := Tryd.func112.trans (congrArg some (by kernel_rfl))
  f276 := Tryd.func135.trans (congrArg some (by kernel_rfl))
  f277 := Tryd.func136.trans (congrArg some (by kernel_rfl))
  t0 := Tryd.underlying0
  a0 := Tryd.isAgg0
  z0 := Tryd.sizeOf0
  v0 := Tryd.zeroValue0
  t3 := Tryd.underlying3
  a3 := Tryd.isAgg3
  z3 := Tryd.sizeOf3
  v3 := Tryd.zeroValue3
  t4 := Tryd.underlying4
  a4 := Tryd.isAgg4
  z4 := Tryd.sizeOf4
  v4 := Tryd.zeroValue4
  t9 := Tryd.underlying9
  a9 := Tryd.isAgg9
  z9 := Tryd.sizeOf9
  v9 := Tryd.zeroValue9
  t20 := Tryd.underlying20
  a20 := Tryd.isAgg20
  z20 := Tryd.sizeOf20
  v20 := Tryd.zeroValue20
  t31 := Tryd.underlying80
  a31 := Tryd.isAgg80
  z31 := Tryd.sizeOf80
  v31 := Tryd.zeroValue80
  t37 := Tryd.underlying110
  a37 := Tryd.isAgg110
  z37 := Tryd.sizeOf110
  v37 := Tryd.zeroValue110
  t70 := Tryd.underlying112
  a70 := Tryd.isAgg112
  z70 := Tryd.sizeOf112
  v70 := Tryd.zeroValue112
  t72 := Tryd.underlying114
  a72 := Tryd.isAgg114
  z72 := Tryd.sizeOf114
  v72 := Tryd.zeroValue114
  t75 := Tryd.underlying117
  a75 := Tryd.isAgg117
  z75 := Tryd.sizeOf117
  v75 := Tryd.zeroValue117
  t76 := Tryd.underlying118
  a76 := Tryd.isAgg118
  z76 := Tryd.sizeOf118
  v76 := Tryd.zeroValue118
  t127 := Tryd.underlying130
  a127 := Tryd.isAgg130
  z127 := Tryd.sizeOf130
  v127 := Tryd.zeroValue130
  t164 := Tryd.underlying151
  a164 := Tryd.isAgg151
  z164 := Tryd.sizeOf151
  v164 := Tryd.zeroValue151 }
theorem shelf_Builder_Extra_156 : Builder.Extra Tryd.prog shelf_lays156_ren := {
  sizeBuilder := by kernel_rfl
  liesBuilder := by kernel_rfl
  t5 := Tryd.underlying5
  a5 := Tryd.isAgg5
  z5 := Tryd.sizeOf5
  v5 := Tryd.zeroValue5
  infoByte := by kernel_rfl
  cellsByte := by kernel_rfl
  sizeByte := by kernel_rfl
  neB5 := by decide }
theorem shelf_strings_Join_none (a : Option Addr) (c : Nat) (sep : ByteArray) (w : World) :
    Calls Tryd.prog 74 #[.slice a 0 c, .string sep] w fun e w' => e = .returned (.string ⟨#[]⟩) ∧ w' = w := Any.strings_Join_none shelf_lays156 shelf_Builder_Extra_156 a c sep w
theorem shelf_strings_Join (bk o c : Nat) (xs : List ByteArray) (sep : ByteArray) (w : World) (hcells : ∀ (j : Nat) x, xs[j]? = some x → w.cell? ⟨bk, o + j, none⟩ = some (.string x)) (hbk : bk < w.heap.size) (hN : xs.length ≤ 140737488355328) (hcap : xs.length ≤ c) (hlen : (Lib.join (xs.map (·.data.toList)) sep.data.toList).length ≤ 140737488355328) :
    Calls Tryd.prog 74 #[.slice (some ⟨bk, o, none⟩) xs.length c, .string sep] w fun e w' => e = .returned (.string ⟨(Lib.join (xs.map (·.data.toList)) sep.data.toList).toArray⟩) ∧ Below w.heap.size w w' := Any.strings_Join shelf_lays156 shelf_Builder_Extra_156 bk o c xs sep w hcells hbk hN hcap hlen

end Go.Proofs.YtifjdiiafofnpaaDoor

/- ExpandPieces: the stitches of pieces, the given side. -/
namespace Go.Proofs.YtifjdiiafofnpaaDoor
open Go Go.RowKit

theorem wpList_appendC_at {P : Program} (w : World) {ops : Array Oper} {rest : List Oper} {o : Oper} {a : Act} {Q : Exit → Act → World → Prop} (hgd : o.guard = none) (s x : Operand) (t : TypeId)
    (hop : o.op = .call { callee := .builtin .append, args := #[s, x], argTypes := #[t, t] })
    (e : TypeId) (i : TypeInfo) (z : Value) (size bytes : Nat) (ht : P.underlying t = some (.slice e)) (hi : P.info? e = some i) (hz : i.zero = some z)
    (hsize : i.size = size) (hby : i.bytes = bytes) (hzs : z.cells.size = size) (hsz : 0 < size)
    {lo hi' n c : Nat} {A : Option Addr} {cs : List Value} (hs : a.eval s = .slice A n c) (hown : OwnC w lo hi' e size A n c cs) (hlo : lo ≤ w.heap.size)
    (A2 : Option Addr) (m c2 : Nat) (news : List Value) (hx : a.eval x = .slice A2 m c2) (hl : news.length = m * size)
    (hnews : ∀ j u, news[j]? = some u → ∃ b off, A2 = some ⟨b, off, none⟩ ∧ w.cell? ⟨b, off + j, none⟩ = some u) (h1 : ∀ u ∈ news, u.oneCell' = true)
    (h63 : n + m ≤ maxLen) (hbytes : (n + m) * bytes ≤ 140737488355328)
    (h : ∀ A' c' w', OwnC w' lo w'.heap.size e size A' (n + m) c' (cs ++ news) → w.grownBy w' (Value.slice A n c).ownBlock → Below lo w w' → ((Value.slice A' (n + m) c').ownBlock = (Value.slice A n c).ownBlock ∨ (Value.slice A' (n + m) c').ownBlock = some w.heap.size) → wpList P ops Q rest (a.put o.dst (.slice A' (n + m) c')) w') : wpList P ops Q (o :: rest) a w :=
  wpList_plain hgd fun _ hK => wp_appendC_at w s x t hop e i z size bytes ht hi hz hsize hby hzs hsz hs hown hlo A2 m c2 news hx hl hnews h1 h63 hbytes fun A' c' w' h2 h3 h4 h5 => hK _ _ (h A' c' w' h2 h3 h4 h5)
/-- The two slices do not lie in one block. -/
def Apart (A B : Option Addr) : Prop := ∀ a b, A = some a → B = some b → a.block ≠ b.block
theorem Apart.of {w : World} {lo hi lo' hi' : Nat} {A B : Option Addr} {n c m d : Nat} {xs ys : List Value} (h : OwnC w lo hi 2 1 A n c xs) (h' : OwnC w lo' hi' 2 1 B m d ys) (hh : hi ≤ lo') : Apart A B := by
  intro a b ha hb e
  have h1 := h.lt a ha
  rcases h'.form with ⟨hB, _⟩ | ⟨q, _, hB, h2, _⟩
  · rw [hB] at hb; cases hb
  · rw [hB] at hb
    injection hb with hb
    subst hb
    have : lo' ≤ q := h2
    have e' : a.block = q := e
    omega
theorem Apart.kept {w w' : World} {lo hi : Nat} {A B : Option Addr} {n c m d : Nat} {ys : List Value} (ha : Apart A B) (h : OwnC w lo hi 2 1 B m d ys) (hhi : hi ≤ w.heap.size) (hg : w.grownBy w' (Value.slice A n c).ownBlock) : OwnC w' lo hi 2 1 B m d ys := by
  refine h.keep1 fun q hq => hg.block q ?_ ?_
  · have := h.lt _ hq; exact Nat.lt_of_lt_of_le this hhi
  · intro e
    cases A with
    | none => cases e
    | some a =>
      injection e with e
      exact ha a ⟨q, 0, none⟩ rfl hq e.symm
theorem Apart.next {w : World} {lo hi : Nat} {A A' B : Option Addr} {n c n' c' m d : Nat} {ys : List Value} (ha : Apart A B) (h : OwnC w lo hi 2 1 B m d ys) (hhi : hi ≤ w.heap.size) (hat : (Value.slice A' n' c').ownBlock = (Value.slice A n c).ownBlock ∨ (Value.slice A' n' c').ownBlock = some w.heap.size) : Apart A' B := by
  intro a b hA hB e
  subst hA
  have hb := h.lt b hB
  rcases hat with hat | hat
  · cases A with
    | none => cases hat
    | some a0 =>
      injection hat with hat
      exact ha a0 b rfl hB (by rw [← hat]; exact e)
  · injection hat with hat
    omega

end Go.Proofs.YtifjdiiafofnpaaDoor

/- ExpandPieces, the given side. -/
namespace Go.Proofs.YtifjdiiafofnpaaDoor
open Go Go.RowKit

theorem ex_1 {ps : List PieceD} {cols : Int} (h : piecesB ps = false) : exRes ps cols = [] ∧ exCode ps cols = 1 := ex_err (by simp [exCode, h]) (by decide)
theorem ex_2 {ps : List PieceD} {cols : Int} (h : piecesB ps = true) (hc : inR cols 1 8 = false) : exRes ps cols = [] ∧ exCode ps cols = 2 := ex_err (by simp [exCode, h, hc]) (by decide)
theorem ex_10 {ps : List PieceD} {cols : Int} (h : piecesB ps = true) (hc : inR cols 1 8 = true) (he : ¬ needOf ps + timesOf ps cols * eachOf ps = cols) : exRes ps cols = [] ∧ exCode ps cols = 10 := ex_err (by simp [exCode, h, hc, he]) (by decide)
theorem ex_5 {ps : List PieceD} {cols : Int} (h : piecesB ps = true) (hc : inR cols 1 8 = true) (he : needOf ps + timesOf ps cols * eachOf ps = cols) (hs : ¬ sumP true ps 0 + timesOf ps cols * sumP true (openPart ps) 0 ≤ 16) : exRes ps cols = [] ∧ exCode ps cols = 5 := ex_err (by rw [exCode, if_pos h, if_pos hc, if_pos he, if_neg hs]) (by decide)
theorem ex_0 {ps : List PieceD} {cols : Int} (h : piecesB ps = true) (hc : inR cols 1 8 = true) (he : needOf ps + timesOf ps cols * eachOf ps = cols) (hs : sumP true ps 0 + timesOf ps cols * sumP true (openPart ps) 0 ≤ 16) : exRes ps cols = expP (timesOf ps cols) ps ∧ exCode ps cols = 0 := ex_ok (by rw [exCode, if_pos h, if_pos hc, if_pos he, if_pos hs])

end Go.Proofs.YtifjdiiafofnpaaDoor

/- ExpandPieces, the program's side. -/
namespace Go.Proofs.YtifjdiiafofnpaaDoor
open Go Go.RowKit

end Go.Proofs.YtifjdiiafofnpaaDoor
