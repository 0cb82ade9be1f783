/- Steps of the proof, joined from several texts: NP NS NM EA DE DJ DK DL. -/
import Derived.Test.YtnjgmhdmjaijgaaGreatDoorZ5
import Derived.Test.YtnjgmhdmjaijgaaGreatDoorZ3
import Derived.Test.YtnjgmhdmjaijgaaGreatDoorZ4
import Derived.Deep.RegionLaw
import Derived.RegionTactic
import Derived.Test.YtnjgmhdmjaijgaaGreatDoorZ10
import Derived.Lib.Join
import Derived.Lib.SplitLaws
import Derived.Lib.IndexBytes

/- NeedOf: the plain functions. -/
namespace Go.Proofs.YtnjgmhdmjaijgaaGreatDoor
open Go.RowKit

def sumP (cnt : Bool) : List PieceD → Int → Int
  | [], acc => acc
  | p :: r, acc =>
    if p.kind = 12 then sumP cnt (r.drop p.len.toNat) (wrap64 (acc + wrap64 (p.times * sumP cnt (r.take p.len.toNat) 0)))
    else sumP cnt r (wrap64 (acc + (if cnt then p.times else wrap64 (p.times * takenB p.kind))))
termination_by l => l.length
decreasing_by all_goals (simp; try omega)
def openP (cnt : Bool) : List PieceD → Int → Int
  | [], o => o
  | p :: r, o => if p.kind = 12 then openP cnt (r.drop p.len.toNat) (if p.times = 0 then sumP cnt (r.take p.len.toNat) 0 else o) else openP cnt r o
termination_by l => l.length
decreasing_by all_goals (simp; try omega)
def openPart : List PieceD → List PieceD
  | [] => []
  | p :: r => if p.kind = 12 ∧ p.times = 0 then r.take p.len.toNat else openPart r
abbrev Good (d : Nat) (l : List PieceD) : Prop := (rangeP d l).isSome = true
theorem sumP_nil (cnt : Bool) (acc : Int) : sumP cnt [] acc = acc := by rw [sumP]
theorem sumP_group {cnt : Bool} {p : PieceD} {r : List PieceD} (h : p.kind = 12) (acc : Int) : sumP cnt (p :: r) acc = sumP cnt (r.drop p.len.toNat) (wrap64 (acc + wrap64 (p.times * sumP cnt (r.take p.len.toNat) 0))) := by rw [sumP, if_pos h]
theorem sumP_plain {cnt : Bool} {p : PieceD} {r : List PieceD} (h : p.kind ≠ 12) (acc : Int) : sumP cnt (p :: r) acc = sumP cnt r (wrap64 (acc + (if cnt then p.times else wrap64 (p.times * takenB p.kind)))) := by rw [sumP, if_neg h]
theorem openP_nil (cnt : Bool) (o : Int) : openP cnt [] o = o := by rw [openP]
theorem openP_group {cnt : Bool} {p : PieceD} {r : List PieceD} (h : p.kind = 12) (o : Int) : openP cnt (p :: r) o = openP cnt (r.drop p.len.toNat) (if p.times = 0 then sumP cnt (r.take p.len.toNat) 0 else o) := by rw [openP, if_pos h]
theorem openP_plain {cnt : Bool} {p : PieceD} {r : List PieceD} (h : p.kind ≠ 12) (o : Int) : openP cnt (p :: r) o = openP cnt r o := by rw [openP, if_neg h]
theorem good_plain {d : Nat} {p : PieceD} {r : List PieceD} (h : Good d (p :: r)) (hk : p.kind ≠ 12) : plainP p = true ∧ Good d r := by
  unfold Good at h
  rw [rangeP, if_neg hk] at h
  split at h
  · exact ⟨by assumption, h⟩
  · cases h
theorem good_group {d : Nat} {p : PieceD} {r : List PieceD} (h : Good d (p :: r)) (hk : p.kind = 12) : d < 3 ∧ 1 ≤ p.len ∧ p.len ≤ r.length ∧ 0 ≤ p.times ∧ p.times ≤ 16 ∧ (0 < d → p.times ≠ 0) ∧ Good (d + 1) (r.take p.len.toNat) ∧ Good d (r.drop p.len.toNat) := by
  unfold Good at h ⊢
  rw [rangeP, if_pos hk] at h
  split at h
  · rename_i hg
    have h2 := hg.2
    unfold groupP at h2
    simp only [Bool.and_eq_true, Bool.not_eq_true', Bool.and_eq_false_iff, decide_eq_false_iff_not] at h2
    have h3 := inR_iff.1 h2.1.1
    have h4 := inR_iff.1 h2.2
    split at h
    · cases h
    · rename_i e
      rw [Option.isSome_map] at h
      exact ⟨hg.1, h4.1, h4.2, h3.1, h3.2, fun hd ht => by rcases h2.1.2 with h5 | h5 <;> omega, by rw [e]; rfl, h⟩
  · cases h
theorem good_deep (n d : Nat) (hd : 0 < d) : ∀ l : List PieceD, l.length ≤ n → Good d l → ∀ p ∈ l, ¬ (p.kind = 12 ∧ p.times = 0) := by
  induction n generalizing d with
  | zero => intro l hl _ p hp; have : l = [] := by cases l <;> simp_all
            subst this; simp at hp
  | succ n ih =>
    intro l hl h p hp
    cases l with
    | nil => simp at hp
    | cons q r =>
      simp only [List.length_cons] at hl
      by_cases hk : q.kind = 12
      · obtain ⟨_, h1, h2, _, _, h3, h4, h5⟩ := good_group h hk
        rcases List.mem_cons.1 hp with rfl | hp
        · exact fun e => h3 hd e.2
        · rw [← List.take_append_drop q.len.toNat r] at hp
          rcases List.mem_append.1 hp with hp | hp
          · exact ih (d + 1) (by omega) _ (by simp; omega) h4 p hp
          · exact ih d hd _ (by simp; omega) h5 p hp
      · rcases List.mem_cons.1 hp with rfl | hp
        · exact fun e => hk e.1
        · exact ih d hd _ (by omega) (good_plain h hk).2 p hp
theorem openPart_skip {a b : List PieceD} (h : ∀ p ∈ a, ¬ (p.kind = 12 ∧ p.times = 0)) : openPart (a ++ b) = openPart b := by
  induction a with
  | nil => rfl
  | cons p a ih =>
    rw [List.cons_append, openPart, if_neg (h p (by simp)), ih fun q hq => h q (by simp [hq])]
theorem openP_zero (cnt : Bool) (d n : Nat) : ∀ (l : List PieceD) (o : Int), l.length ≤ n → rangeP d l = some 0 → openP cnt l o = o := by
  induction n with
  | zero => intro l o hl _; have : l = [] := by cases l <;> simp_all
            subst this; exact openP_nil _ _
  | succ n ih =>
    intro l o hl h
    cases l with
    | nil => exact openP_nil _ _
    | cons p r =>
      simp only [List.length_cons] at hl
      by_cases hk : p.kind = 12
      · have hg : Good d (p :: r) := by unfold Good; rw [h]; rfl
        obtain ⟨h0, _, _, _, _, _, h4, h5⟩ := good_group hg hk
        have h6 := h
        rw [rangeP, if_pos hk] at h6
        split at h6
        · split at h6
          · cases h6
          · rw [Option.map_eq_some_iff] at h6
            obtain ⟨o', ho', e⟩ := h6
            have ht : p.times ≠ 0 := by intro ht; rw [if_pos ht] at e; omega
            rw [if_neg ht] at e
            rw [openP_group hk, if_neg ht]
            exact ih _ _ (by simp; omega) (by rw [ho']; congr 1; omega)
        · cases h6
      · rw [openP_plain hk]
        rw [rangeP, if_neg hk] at h
        split at h
        · exact ih _ _ (by omega) h
        · cases h
theorem openP_part (cnt : Bool) (n : Nat) : ∀ l : List PieceD, l.length ≤ n → okP (rangeP 0 l) = true → openP cnt l 0 = sumP cnt (openPart l) 0 := by
  induction n with
  | zero => intro l hl _; have : l = [] := by cases l <;> simp_all
            subst this; rw [openP_nil, openPart, sumP_nil]
  | succ n ih =>
    intro l hl h
    cases l with
    | nil => rw [openP_nil, openPart, sumP_nil]
    | cons p r =>
      simp only [List.length_cons] at hl
      have hg : Good 0 (p :: r) := by
        unfold Good
        cases e : rangeP 0 (p :: r) with
        | none => rw [e] at h; cases h
        | some o => rfl
      by_cases hk : p.kind = 12
      · obtain ⟨h0, _, _, _, _, _, h4, h5⟩ := good_group hg hk
        have h6 := h
        rw [rangeP, if_pos hk] at h6
        split at h6
        · split at h6
          · cases h6
          · cases ho : rangeP 0 (r.drop p.len.toNat) with
            | none => rw [ho] at h6; cases h6
            | some o =>
              rw [ho] at h6
              have h7 : (if p.times = 0 then 1 else 0) + o ≤ 1 := of_decide_eq_true h6
              rw [openP_group hk]
              by_cases ht : p.times = 0
              · rw [if_pos ht] at h7 ⊢
                rw [openP_zero cnt 0 n _ _ (by simp; omega) (by rw [ho]; congr 1; omega), openPart, if_pos ⟨hk, ht⟩]
              · rw [if_neg ht] at h7 ⊢
                rw [openPart, if_neg (fun e => ht e.2)]
                have e2 := openPart_skip (b := r.drop p.len.toNat) (good_deep r.length 1 (by omega) (r.take p.len.toNat) (by simp; omega) h4)
                rw [List.take_append_drop] at e2
                rw [e2]
                exact ih _ (by simp; omega) (by rw [ho]; exact decide_eq_true (by omega))
        · cases h6
      · rw [openP_plain hk, openPart, if_neg (fun e => hk e.1)]
        rw [rangeP, if_neg hk] at h
        split at h
        · exact ih _ (by omega) h
        · cases h
theorem openPart_good (n : Nat) : ∀ l : List PieceD, l.length ≤ n → Good 0 l → ∃ d, Good d (openPart l) := by
  induction n with
  | zero => intro l hl _; have : l = [] := by cases l <;> simp_all
            subst this; exact ⟨0, by rw [openPart]; unfold Good; rw [rangeP_nil]; rfl⟩
  | succ n ih =>
    intro l hl h
    cases l with
    | nil => exact ⟨0, by rw [openPart]; unfold Good; rw [rangeP_nil]; rfl⟩
    | cons p r =>
      simp only [List.length_cons] at hl
      by_cases hk : p.kind = 12
      · obtain ⟨h0, _, _, _, _, _, h4, h5⟩ := good_group h hk
        by_cases ht : p.times = 0
        · rw [openPart, if_pos ⟨hk, ht⟩]; exact ⟨1, h4⟩
        · rw [openPart, if_neg (fun e => ht e.2)]
          have e2 := openPart_skip (b := r.drop p.len.toNat) (good_deep r.length 1 (by omega) (r.take p.len.toNat) (by simp; omega) h4)
          rw [List.take_append_drop] at e2
          rw [e2]
          exact ih _ (by simp; omega) h5
      · rw [openPart, if_neg (fun e => hk e.1)]
        exact ih _ (by omega) (good_plain h hk).2
/-- From k on: the list is good at this depth. -/
theorem good_at_plain {d k : Nat} {ps : List PieceD} {p : PieceD} (h : Good d (ps.drop k)) (hp : ps[k]? = some p) (hk : p.kind ≠ 12) : plainP p = true ∧ Good d (ps.drop (k + 1)) := by
  rw [drop_cons hp] at h; exact good_plain h hk
theorem good_at_group {d k : Nat} {ps : List PieceD} {p : PieceD} (h : Good d (ps.drop k)) (hp : ps[k]? = some p) (hk : p.kind = 12) : ∃ n : Nat, p.len = (n : Int) ∧ 1 ≤ n ∧ k + 1 + n ≤ ps.length ∧ d < 3 ∧ (0 < d → p.times ≠ 0) ∧ 0 ≤ p.times ∧ p.times ≤ 16 ∧ Good (d + 1) (segP ps (k + 1) (k + 1 + n)) ∧ Good d (ps.drop (k + 1 + n)) ∧
    (∀ cnt acc, sumP cnt (ps.drop k) acc = sumP cnt (ps.drop (k + 1 + n)) (wrap64 (acc + wrap64 (p.times * sumP cnt (segP ps (k + 1) (k + 1 + n)) 0)))) ∧ (∀ cnt o, openP cnt (ps.drop k) o = openP cnt (ps.drop (k + 1 + n)) (if p.times = 0 then sumP cnt (segP ps (k + 1) (k + 1 + n)) 0 else o)) := by
  rw [drop_cons hp] at h
  have hkl := (List.getElem?_eq_some_iff.1 hp).1
  obtain ⟨h0, h1, h2, h3, h4, h5, h6, h7⟩ := good_group h hk
  rw [List.length_drop] at h2
  have e1 : (ps.drop (k + 1)).take p.len.toNat = segP ps (k + 1) (k + 1 + p.len.toNat) := by unfold segP; congr 1; omega
  have e2 : (ps.drop (k + 1)).drop p.len.toNat = ps.drop (k + 1 + p.len.toNat) := by rw [List.drop_drop]
  rw [e1] at h6
  rw [e2] at h7
  refine ⟨p.len.toNat, by omega, by omega, by omega, h0, h5, h3, h4, h6, h7, fun cnt acc => ?_, fun cnt o => ?_⟩
  · rw [drop_cons hp, sumP_group hk, e1, e2]
  · rw [drop_cons hp, openP_group hk, e1, e2]
theorem sum_at_plain {k : Nat} {ps : List PieceD} {p : PieceD} (hp : ps[k]? = some p) (hk : p.kind ≠ 12) (cnt : Bool) (acc : Int) : sumP cnt (ps.drop k) acc = sumP cnt (ps.drop (k + 1)) (wrap64 (acc + (if cnt then p.times else wrap64 (p.times * takenB p.kind)))) := by
  rw [drop_cons hp, sumP_plain hk]

end Go.Proofs.YtnjgmhdmjaijgaaGreatDoor

/- NeedOf, the given side. -/
namespace Go.Proofs.YtnjgmhdmjaijgaaGreatDoor
open Go.RowKit

theorem good_bound (n : Nat) : ∀ (d : Nat) (l : List PieceD), l.length ≤ n → Good d l → ∀ (k : Nat) (p : PieceD), l[k]? = some p → p.kind = 12 → 1 ≤ p.len ∧ (k : Int) + 1 + p.len ≤ l.length := by
  induction n with
  | zero => intro d l hl _ k p hp; have : l = [] := by cases l <;> simp_all
            subst this; simp at hp
  | succ n ih =>
    intro d l hl h k p hp hk
    cases l with
    | nil => simp at hp
    | cons q r =>
      simp only [List.length_cons] at hl ⊢
      by_cases hq : q.kind = 12
      · obtain ⟨_, h1, h2, _, _, h3, h4, h5⟩ := good_group h hq
        cases k with
        | zero => simp at hp; subst hp; omega
        | succ k =>
          simp only [List.getElem?_cons_succ] at hp
          by_cases hkn : k < q.len.toNat
          · have := ih (d + 1) (r.take q.len.toNat) (by simp; omega) h4 k p (by rw [List.getElem?_take_of_lt hkn]; exact hp) hk
            have hl2 : (r.take q.len.toNat).length ≤ r.length := by simp; omega
            omega
          · have := ih d (r.drop q.len.toNat) (by simp; omega) h5 (k - q.len.toNat) p (by rw [List.getElem?_drop, show q.len.toNat + (k - q.len.toNat) = k by omega]; exact hp) hk
            have hl2 : (r.drop q.len.toNat).length = r.length - q.len.toNat := by simp
            omega
      · cases k with
        | zero => simp at hp; subst hp; exact absurd hk hq
        | succ k =>
          have := ih d r (by omega) (good_plain h hq).2 k p (by simpa using hp) hk
          omega


end Go.Proofs.YtnjgmhdmjaijgaaGreatDoor

/- measure, eachPiece and the closure between them. -/
namespace Go.Proofs.YtnjgmhdmjaijgaaGreatDoor
open Go.RowKit

def needP (ps : List PieceD) : Int × Int × Bool := if piecesB ps then (sumP false ps 0, sumP false (openPart ps) 0, true) else (0, 0, false)
theorem piecesB_good {ps : List PieceD} (h : piecesB ps = true) : ps.length ≤ 24 ∧ okP (rangeP 0 ps) = true ∧ Good 0 ps := by
  unfold piecesB at h
  simp only [Bool.and_eq_true, decide_eq_true_eq] at h
  refine ⟨h.1, h.2, ?_⟩
  unfold Good
  cases e : rangeP 0 ps with
  | none => rw [e] at h; cases h.2
  | some o => rfl
theorem openPart_length (ps : List PieceD) : (openPart ps).length ≤ ps.length := by
  induction ps with
  | nil => simp [openPart]
  | cons p r ih =>
    rw [openPart]
    split
    · simp; omega
    · simp; omega


end Go.Proofs.YtnjgmhdmjaijgaaGreatDoor

/- ExpandPieces: the plain functions. -/
namespace Go.Proofs.YtnjgmhdmjaijgaaGreatDoor
open Go Go.RowKit

def rep (n : Int) (xs : List Int) : List Int := (List.replicate n.toNat xs).flatten
theorem rep_length (n : Int) (xs : List Int) : (rep n xs).length = n.toNat * xs.length := by
  unfold rep
  generalize n.toNat = k
  induction k with
  | zero => simp
  | succ k ih => rw [List.replicate_succ, List.flatten_cons, List.length_append, ih, Nat.succ_mul]; omega
theorem rep_zero {n : Int} (h : n ≤ 0) (xs : List Int) : rep n xs = [] := by
  have : n.toNat = 0 := by omega
  rw [rep, this]; rfl
theorem rep_snoc (k : Nat) (xs : List Int) : rep ((k : Int) + 1) xs = rep (k : Int) xs ++ xs := by
  have e1 : ((k : Int) + 1).toNat = k + 1 := by omega
  have e2 : (k : Int).toNat = k := by omega
  rw [rep, rep, e1, e2, List.replicate_succ', List.flatten_append]
  simp
def expP (o : Int) : List PieceD → List Int
  | [] => []
  | p :: r =>
    if p.kind = 12 then rep (if p.times = 0 then o else p.times) (expP o (r.take p.len.toNat)) ++ expP o (r.drop p.len.toNat)
    else rep p.times [p.kind] ++ expP o r
termination_by l => l.length
decreasing_by all_goals (simp; try omega)
theorem expP_nil (o : Int) : expP o [] = [] := by rw [expP]
theorem expP_group {o : Int} {p : PieceD} {r : List PieceD} (h : p.kind = 12) : expP o (p :: r) = rep (if p.times = 0 then o else p.times) (expP o (r.take p.len.toNat)) ++ expP o (r.drop p.len.toNat) := by rw [expP, if_pos h]
theorem expP_plain {o : Int} {p : PieceD} {r : List PieceD} (h : p.kind ≠ 12) : expP o (p :: r) = rep p.times [p.kind] ++ expP o r := by rw [expP, if_neg h]
theorem exp_at_plain {k : Nat} {ps : List PieceD} {p : PieceD} (hp : ps[k]? = some p) (hk : p.kind ≠ 12) (o : Int) : expP o (ps.drop k) = rep p.times [p.kind] ++ expP o (ps.drop (k + 1)) := by
  rw [drop_cons hp, expP_plain hk]
theorem exp_at_group {k n : Nat} {ps : List PieceD} {p : PieceD} (hp : ps[k]? = some p) (hk : p.kind = 12) (hn : p.len = (n : Int)) (o : Int) : expP o (ps.drop k) = rep (if p.times = 0 then o else p.times) (expP o (segP ps (k + 1) (k + 1 + n))) ++ expP o (ps.drop (k + 1 + n)) := by
  rw [drop_cons hp, expP_group hk, hn, Int.toNat_natCast, List.drop_drop]
  have e : segP ps (k + 1) (k + 1 + n) = (ps.drop (k + 1)).take n := by rw [segP, Nat.add_sub_cancel_left]
  rw [e]
theorem expP_deep (n d : Nat) (hd : 0 < d) (o : Int) : ∀ l : List PieceD, l.length ≤ n → Good d l → expP o l = expP 0 l := by
  induction n generalizing d with
  | zero => intro l hl _; have : l = [] := by cases l <;> simp_all
            subst this; rw [expP_nil, expP_nil]
  | succ n ih =>
    intro l hl h
    cases l with
    | nil => rw [expP_nil, expP_nil]
    | cons p r =>
      simp only [List.length_cons] at hl
      by_cases hk : p.kind = 12
      · obtain ⟨_, h1, h2, _, _, h3, h4, h5⟩ := good_group h hk
        rw [expP_group hk, expP_group hk, if_neg (h3 hd), if_neg (h3 hd), ih (d + 1) (by omega) _ (by simp; omega) h4, ih d hd _ (by simp; omega) h5]
      · rw [expP_plain hk, expP_plain hk, ih d hd _ (by omega) (good_plain h hk).2]
def roomOf : Nat → Nat
  | 0 => 262144
  | 1 => 16384
  | 2 => 1024
  | _ => 64
theorem roomOf_step {d : Nat} (h : d < 3) : roomOf d = 16 * roomOf (d + 1) := by
  rcases (by omega : d = 0 ∨ d = 1 ∨ d = 2) with e | e | e <;> subst e <;> rfl
theorem roomOf_ge (d : Nat) : 64 ≤ roomOf d := by unfold roomOf; split <;> omega
theorem roomOf_le (d : Nat) : roomOf d ≤ 262144 := by unfold roomOf; split <;> omega
theorem times_of {p : PieceD} (h : plainP p = true) : 1 ≤ p.times ∧ p.times ≤ 16 ∧ p.len = 0 ∧ isStitchB p.kind = true := by
  unfold plainP at h
  simp only [Bool.and_eq_true, decide_eq_true_eq] at h
  obtain ⟨⟨h1, h2⟩, h3⟩ := h
  have := inR_iff.1 h2
  exact ⟨this.1, this.2, h3, h1⟩
theorem expP_small (n : Nat) (o : Int) (ho : o ≤ 16) : ∀ (d : Nat) (l : List PieceD), l.length ≤ n → Good d l → (expP o l).length ≤ l.length * roomOf d := by
  induction n with
  | zero => intro d l hl _; have : l = [] := by cases l <;> simp_all
            subst this; rw [expP_nil]; simp
  | succ n ih =>
    intro d l hl h
    cases l with
    | nil => rw [expP_nil]; simp
    | cons p r =>
      simp only [List.length_cons] at hl
      by_cases hk : p.kind = 12
      · obtain ⟨h0, h1, h2, h8, h9, h3, h4, h5⟩ := good_group h hk
        have i1 := ih (d + 1) (r.take p.len.toNat) (by simp; omega) h4
        have i2 := ih d (r.drop p.len.toNat) (by simp; omega) h5
        have l1 : (r.take p.len.toNat).length + (r.drop p.len.toNat).length = r.length := by rw [← List.length_append, List.take_append_drop]
        rw [expP_group hk, List.length_append, rep_length, List.length_cons, roomOf_step h0] at *
        have l2 : (if p.times = 0 then o else p.times).toNat ≤ 16 := by split <;> omega
        have l3 := Nat.mul_le_mul l2 i1
        have l4 : r.length * (16 * roomOf (d + 1)) = (r.take p.len.toNat).length * (16 * roomOf (d + 1)) + (r.drop p.len.toNat).length * (16 * roomOf (d + 1)) := by rw [← Nat.add_mul, l1]
        have l5 : 16 * ((r.take p.len.toNat).length * roomOf (d + 1)) = (r.take p.len.toNat).length * (16 * roomOf (d + 1)) := by rw [Nat.mul_left_comm]
        have l6 : (r.length + 1) * (16 * roomOf (d + 1)) = r.length * (16 * roomOf (d + 1)) + 16 * roomOf (d + 1) := by rw [Nat.add_mul, Nat.one_mul]
        omega
      · obtain ⟨hp, hg⟩ := good_plain h hk
        obtain ⟨t1, t2, _⟩ := times_of hp
        have i1 := ih d r (by omega) hg
        have hr := roomOf_ge d
        rw [expP_plain hk, List.length_append, rep_length]
        simp only [List.length_cons, List.length_nil]
        rw [Nat.add_mul, Nat.one_mul]
        omega
theorem takenB_le (k : Int) (h : isStitchB k = true) : 0 ≤ takenB k ∧ takenB k ≤ 4 := by
  have h1 := inR_iff.1 h
  rcases (by omega : k = 1 ∨ k = 2 ∨ k = 3 ∨ k = 4 ∨ k = 5 ∨ k = 6 ∨ k = 7 ∨ k = 8 ∨ k = 9 ∨ k = 10 ∨ k = 11) with e | e | e | e | e | e | e | e | e | e | e <;> subst e <;> decide
theorem sumP_small (cnt : Bool) (n : Nat) : ∀ (d : Nat) (l : List PieceD) (acc : Int), l.length ≤ n → n ≤ 100 → Good d l → 0 ≤ acc → acc + ((l.length * roomOf d : Nat) : Int) ≤ 1000000000000000 → acc ≤ sumP cnt l acc ∧ sumP cnt l acc ≤ acc + ((l.length * roomOf d : Nat) : Int) := by
  induction n with
  | zero => intro d l acc hl _ _ h0 _; have : l = [] := by cases l <;> simp_all
            subst this; rw [sumP_nil]; simp
  | succ n ih =>
    intro d l acc hl h100 h h0 h1
    cases l with
    | nil => rw [sumP_nil]; simp
    | cons p r =>
      simp only [List.length_cons] at hl h1 ⊢
      rw [Nat.add_mul, Nat.one_mul] at h1 ⊢
      have hr := roomOf_ge d
      by_cases hk : p.kind = 12
      · obtain ⟨hd, k1, k2, k8, k9, _, h4, h5⟩ := good_group h hk
        have l1 : (r.take p.len.toNat).length + (r.drop p.len.toNat).length = r.length := by rw [← List.length_append, List.take_append_drop]
        have m1 := Nat.mul_le_mul (show (r.take p.len.toNat).length ≤ 100 by simp; omega) (roomOf_le (d + 1))
        obtain ⟨s0, s1⟩ := ih (d + 1) (r.take p.len.toNat) 0 (by simp; omega) (by omega) h4 (by omega) (by omega)
        have l4 : r.length * roomOf d = (r.take p.len.toNat).length * roomOf d + (r.drop p.len.toNat).length * roomOf d := by rw [← Nat.add_mul, l1]
        have l5 : (r.take p.len.toNat).length * roomOf d = 16 * ((r.take p.len.toNat).length * roomOf (d + 1)) := by rw [roomOf_step hd, Nat.mul_left_comm]
        rw [sumP_group hk]
        have hi := fun a x y => ih d (r.drop p.len.toNat) a (by simp; omega) (by omega) h5 x y
        generalize sumP cnt (r.take p.len.toNat) 0 = S at s0 s1 ⊢
        generalize (r.take p.len.toNat).length * roomOf (d + 1) = X at *
        have t1 := Int.mul_le_mul_of_nonneg_right k9 s0
        have t0 := Int.mul_nonneg k8 s0
        generalize p.times * S = Z at t0 t1 ⊢
        have w1 : wrap64 Z = Z := IntWalk.wrap64_in _ ⟨by omega, by omega⟩
        have w2 : wrap64 (acc + Z) = acc + Z := IntWalk.wrap64_in _ ⟨by omega, by omega⟩
        rw [w1, w2]
        have := hi (acc + Z) (by omega) (by omega)
        omega
      · obtain ⟨hp, hg⟩ := good_plain h hk
        obtain ⟨t1, t2, _, t4⟩ := times_of hp
        obtain ⟨k1, k2⟩ := takenB_le _ t4
        rw [sumP_plain hk]
        have hi := fun a x y => ih d r a (by omega) (by omega) hg x y
        have hv : 0 ≤ (if cnt then p.times else wrap64 (p.times * takenB p.kind)) ∧ (if cnt then p.times else wrap64 (p.times * takenB p.kind)) ≤ 64 := by
          split
          · omega
          · have z1 := Int.mul_le_mul t2 k2 k1 (by omega)
            have z0 := Int.mul_nonneg (show 0 ≤ p.times by omega) k1
            generalize p.times * takenB p.kind = Z at z0 z1 ⊢
            rw [show wrap64 Z = Z from IntWalk.wrap64_in _ ⟨by omega, by omega⟩]
            omega
        generalize (if cnt then p.times else wrap64 (p.times * takenB p.kind)) = v at hv ⊢
        rw [show wrap64 (acc + v) = acc + v from IntWalk.wrap64_in _ ⟨by omega, by omega⟩]
        have := hi (acc + v) (by omega) (by omega)
        omega
/-- How often the open group is made. -/
def expT (need cols each : Int) : Int := if need < cols ∧ 0 < each then (cols - need).tdiv each else 0
theorem expT_range {need cols each : Int} (h0 : 0 ≤ need) (h8 : cols ≤ 8) : 0 ≤ expT need cols each ∧ expT need cols each ≤ 8 := by
  unfold expT
  split
  · rename_i h
    rw [Int.tdiv_eq_ediv_of_nonneg (by omega)]
    have h1 := Int.ediv_nonneg (show 0 ≤ cols - need by omega) (show 0 ≤ each by omega)
    have h2 := Int.ediv_le_self each (show 0 ≤ cols - need by omega)
    omega
  · omega
def needOf (ps : List PieceD) : Int := sumP false ps 0
def eachOf (ps : List PieceD) : Int := sumP false (openPart ps) 0
def timesOf (ps : List PieceD) (cols : Int) : Int := expT (needOf ps) cols (eachOf ps)
def exCode (ps : List PieceD) (cols : Int) : Int :=
  if piecesB ps then
    if inR cols 1 8 then
      if needOf ps + timesOf ps cols * eachOf ps = cols then
        if sumP true ps 0 + timesOf ps cols * sumP true (openPart ps) 0 ≤ 16 then 0 else 5
      else 10
    else 2
  else 1
def exRes (ps : List PieceD) (cols : Int) : List Int := if exCode ps cols = 0 then expP (timesOf ps cols) ps else []
theorem ex_err {ps : List PieceD} {cols k : Int} (e : exCode ps cols = k) (hk : k ≠ 0) : exRes ps cols = [] ∧ exCode ps cols = k := ⟨by rw [exRes, if_neg (by rw [e]; exact hk)], e⟩
theorem ex_ok {ps : List PieceD} {cols : Int} (e : exCode ps cols = 0) : exRes ps cols = expP (timesOf ps cols) ps ∧ exCode ps cols = 0 := ⟨by rw [exRes, if_pos e], e⟩
theorem sums_small {ps : List PieceD} (h : piecesB ps = true) (cnt : Bool) : (0 ≤ sumP cnt ps 0 ∧ sumP cnt ps 0 ≤ 30000000) ∧ (0 ≤ sumP cnt (openPart ps) 0 ∧ sumP cnt (openPart ps) 0 ≤ 30000000) := by
  obtain ⟨h24, _, hg⟩ := piecesB_good h
  obtain ⟨d, hd⟩ := openPart_good ps.length ps (Nat.le_refl _) hg
  have hpl := openPart_length ps
  have m1 := Nat.mul_le_mul h24 (roomOf_le 0)
  have m2 := Nat.mul_le_mul (show (openPart ps).length ≤ 24 by omega) (roomOf_le d)
  have s1 := sumP_small cnt ps.length 0 ps 0 (Nat.le_refl _) (by omega) hg (by omega) (by omega)
  have s2 := sumP_small cnt ps.length d (openPart ps) 0 hpl (by omega) hd (by omega) (by omega)
  omega
theorem exRes_length (ps : List PieceD) (cols : Int) : (exRes ps cols).length ≤ 7000000 := by
  unfold exRes
  split
  · rename_i h
    have hv : piecesB ps = true := by
      cases hv : piecesB ps
      · rw [exCode, hv] at h; simp at h
      · rfl
    have hc : inR cols 1 8 = true := by
      cases hc : inR cols 1 8
      · rw [exCode, hv, hc] at h; simp at h
      · rfl
    obtain ⟨h24, _, hg⟩ := piecesB_good hv
    have ht := expT_range (each := eachOf ps) (sums_small hv false).1.1 (inR_iff.1 hc).2
    have := expP_small ps.length (timesOf ps cols) (by unfold timesOf needOf; omega) 0 ps (Nat.le_refl _) hg
    have m1 := Nat.mul_le_mul h24 (roomOf_le 0)
    omega
  · simp

end Go.Proofs.YtnjgmhdmjaijgaaGreatDoor

/- Texts of pieces, plain. -/
namespace Go.Proofs.YtnjgmhdmjaijgaaGreatDoor
open Go Go.RowKit

def joinB (xs : List ByteArray) : ByteArray := ⟨(Lib.join (xs.map (·.data.toList)) [32]).toArray⟩
/-- What stands behind the parts so far, ahead of the next one. -/
def sepB (xs : List ByteArray) : ByteArray := if joinB xs = ⟨#[]⟩ then ⟨#[]⟩ else joinB xs ++ ⟨#[32]⟩
theorem ba_nil (a : ByteArray) : a ++ ⟨#[]⟩ = a := by
  apply ByteArray.ext
  simp
theorem ba_size (a : ByteArray) : a.size = a.data.toList.length := by rw [Array.length_toList]; rfl
theorem ba_isEmpty {t : ByteArray} (h : t = ⟨#[]⟩) : t.toList.isEmpty = true := by rw [h, ByteArray.toList_eq]; rfl
theorem ba_notEmpty {t : ByteArray} (h : t ≠ ⟨#[]⟩) : t.toList.isEmpty = false := by
  rw [ByteArray.toList_eq]
  cases hl : t.data.toList with
  | nil =>
    refine absurd (ByteArray.ext ?_) h
    exact Array.toList_inj.1 hl
  | cons => rfl
theorem joinB_size (xs : List ByteArray) : (joinB xs).size = (Lib.join (xs.map (·.data.toList)) [32]).length := by rw [ba_size]; rfl
theorem joinB_nil : joinB [] = ⟨#[]⟩ := rfl
theorem joinB_snoc (xs : List ByteArray) (x : ByteArray) (h : ∀ y ∈ xs, 0 < y.size) : joinB (xs ++ [x]) = sepB xs ++ x := by
  cases xs with
  | nil =>
    rw [sepB, if_pos joinB_nil, List.nil_append]
    apply ByteArray.ext
    simp [joinB, Lib.join_one]
  | cons y ys =>
    have hne : joinB (y :: ys) ≠ ⟨#[]⟩ := by
      intro e
      have h1 := joinB_size (y :: ys)
      have h2 := h y (by simp)
      rw [e, List.map_cons, Lib.join_cons, List.length_append, ← ba_size] at h1
      have h3 : (⟨#[]⟩ : ByteArray).size = 0 := rfl
      omega
    rw [sepB, if_neg hne]
    apply ByteArray.ext
    simp [joinB, Lib.join_cons, Lib.joinTail, List.append_assoc]
def tmT (none t : Int) : ByteArray := if t = none then ⟨#[]⟩ else decT t.toNat
theorem tmT_size (a b : Int) : (tmT a b).size ≤ 2 := by
  unfold tmT
  split
  · show 0 ≤ 2; omega
  · exact (decT_size _).2
def oneT (p : PieceD) : ByteArray := ⟨#[symB p.kind.toNat]⟩ ++ tmT 1 p.times
def grpT (p : PieceD) (i : ByteArray) : ByteArray := (((⟨#[40]⟩ : ByteArray) ++ i) ++ ⟨#[41, 42]⟩) ++ tmT 0 p.times
theorem oneT_size (p : PieceD) : 1 ≤ (oneT p).size ∧ (oneT p).size ≤ 3 := by
  have h1 := tmT_size 1 p.times
  have h2 : (⟨#[symB p.kind.toNat]⟩ : ByteArray).size = 1 := rfl
  unfold oneT
  rw [ByteArray.size_append]
  omega
theorem grpT_size (p : PieceD) (i : ByteArray) : 1 ≤ (grpT p i).size ∧ (grpT p i).size ≤ i.size + 5 := by
  have h1 := tmT_size 0 p.times
  have h2 : (⟨#[40]⟩ : ByteArray).size = 1 := rfl
  have h3 : (⟨#[41, 42]⟩ : ByteArray).size = 2 := rfl
  unfold grpT
  simp only [ByteArray.size_append]
  omega
def partsP : List PieceD → List ByteArray
  | [] => []
  | p :: r =>
    if p.kind = 12 then grpT p (joinB (partsP (r.take p.len.toNat))) :: partsP (r.drop p.len.toNat)
    else oneT p :: partsP r
termination_by l => l.length
decreasing_by all_goals (simp; try omega)
def txtP (ps : List PieceD) : ByteArray := joinB (partsP ps)
theorem partsP_nil : partsP [] = [] := by rw [partsP]
theorem partsP_group {p : PieceD} {r : List PieceD} (h : p.kind = 12) : partsP (p :: r) = grpT p (txtP (r.take p.len.toNat)) :: partsP (r.drop p.len.toNat) := by rw [partsP, if_pos h]; rfl
theorem partsP_plain {p : PieceD} {r : List PieceD} (h : p.kind ≠ 12) : partsP (p :: r) = oneT p :: partsP r := by rw [partsP, if_neg h]
theorem parts_at_plain {k : Nat} {ps : List PieceD} {p : PieceD} (hp : ps[k]? = some p) (hk : p.kind ≠ 12) : partsP (ps.drop k) = oneT p :: partsP (ps.drop (k + 1)) := by
  rw [drop_cons hp, partsP_plain hk]
theorem parts_at_group {k n : Nat} {ps : List PieceD} {p : PieceD} (hp : ps[k]? = some p) (hk : p.kind = 12) (hn : p.len = (n : Int)) : partsP (ps.drop k) = grpT p (txtP (segP ps (k + 1) (k + 1 + n))) :: partsP (ps.drop (k + 1 + n)) := by
  rw [drop_cons hp, partsP_group hk, hn, Int.toNat_natCast, List.drop_drop]
  have e : segP ps (k + 1) (k + 1 + n) = (ps.drop (k + 1)).take n := by rw [segP, Nat.add_sub_cancel_left]
  rw [e]
theorem partsP_pos (n : Nat) : ∀ l : List PieceD, l.length ≤ n → ∀ y ∈ partsP l, 0 < y.size := by
  induction n with
  | zero => intro l hl; have : l = [] := by cases l <;> simp_all
            subst this; rw [partsP_nil]; intro y hy; cases hy
  | succ n ih =>
    intro l hl
    cases l with
    | nil => rw [partsP_nil]; intro y hy; cases hy
    | cons p r =>
      simp only [List.length_cons] at hl
      intro y hy
      by_cases hk : p.kind = 12
      · rw [partsP_group hk] at hy
        rcases List.mem_cons.1 hy with rfl | hy
        · exact (grpT_size _ _).1
        · exact ih _ (by simp; omega) y hy
      · rw [partsP_plain hk] at hy
        rcases List.mem_cons.1 hy with rfl | hy
        · exact (oneT_size _).1
        · exact ih _ (by omega) y hy
theorem join_le (xs : List ByteArray) : (joinB xs).size ≤ (xs.map ByteArray.size).sum + xs.length := by
  rw [joinB_size]
  cases xs with
  | nil => simp [Lib.join_nil]
  | cons y ys =>
    have e : Lib.lens ((y :: ys).map (·.data.toList)) = ((y :: ys).map ByteArray.size).sum := by
      unfold Lib.lens
      rw [List.map_map]
      exact congrArg List.sum (List.map_congr_left fun z _ => (ba_size z).symm)
    rw [← e, List.map_cons, Lib.join_length, List.length_map, List.length_cons]
    simp only [List.length_cons, List.length_nil]
    omega
theorem parts_small (n : Nat) : ∀ (d : Nat) (l : List PieceD), l.length ≤ n → Good d l → ((partsP l).map ByteArray.size).sum + (partsP l).length ≤ 8 * l.length := by
  induction n with
  | zero => intro d l hl _; have : l = [] := by cases l <;> simp_all
            subst this; rw [partsP_nil]; simp
  | succ n ih =>
    intro d l hl h
    cases l with
    | nil => rw [partsP_nil]; simp
    | cons p r =>
      simp only [List.length_cons] at hl
      by_cases hk : p.kind = 12
      · obtain ⟨_, h1, h2, _, _, _, h4, h5⟩ := good_group h hk
        have i1 := ih (d + 1) (r.take p.len.toNat) (by simp; omega) h4
        have i2 := ih d (r.drop p.len.toNat) (by simp; omega) h5
        have l1 : (r.take p.len.toNat).length + (r.drop p.len.toNat).length = r.length := by rw [← List.length_append, List.take_append_drop]
        have j1 := join_le (partsP (r.take p.len.toNat))
        have g1 := (grpT_size p (txtP (r.take p.len.toNat))).2
        have g2 : (txtP (r.take p.len.toNat)).size = (joinB (partsP (r.take p.len.toNat))).size := rfl
        rw [partsP_group hk, List.map_cons, List.sum_cons, List.length_cons, List.length_cons]
        omega
      · have i1 := ih d r (by omega) (good_plain h hk).2
        have g1 := (oneT_size p).2
        rw [partsP_plain hk, List.map_cons, List.sum_cons, List.length_cons, List.length_cons]
        omega
theorem txt_small {d : Nat} {l : List PieceD} (h : Good d l) : (txtP l).size ≤ 8 * l.length ∧ (partsP l).length ≤ 8 * l.length := by
  have h1 := parts_small l.length d l (Nat.le_refl _) h
  have h2 := join_le (partsP l)
  have h3 : (txtP l).size = (joinB (partsP l)).size := rfl
  omega
/-- The parts until now, and those to come. -/
theorem parts_size {xs ys zs : List ByteArray} (h : zs = xs ++ ys) : (joinB xs).size ≤ (zs.map ByteArray.size).sum + zs.length := by
  have h1 := join_le xs
  rw [h, List.map_append, List.sum_append, List.length_append]
  omega
theorem txt_sizes {d : Nat} {ps : List PieceD} (h : Good d ps) (hl : ps.length ≤ 100) {xs ys : List ByteArray} (he : partsP ps = xs ++ ys) : (joinB xs).size ≤ 800 ∧ (sepB xs).size ≤ 801 := by
  have h1 := parts_small ps.length d ps (Nat.le_refl _) h
  have h2 := parts_size he
  have h3 : (joinB xs).size ≤ 800 := by omega
  refine ⟨h3, ?_⟩
  unfold sepB
  split
  · show 0 ≤ 801; omega
  · rw [ByteArray.size_append]
    have : (⟨#[32]⟩ : ByteArray).size = 1 := rfl
    omega
theorem sep_next {ps : List PieceD} {xs ys : List ByteArray} (he : partsP ps = xs ++ ys) (x : ByteArray) : joinB (xs ++ [x]) = sepB xs ++ x :=
  joinB_snoc xs x fun y hy => partsP_pos ps.length ps (Nat.le_refl _) y (by rw [he]; exact List.mem_append_left _ hy)
/-- The text of pieces: none where they are not valid. -/
def piecesT (ps : List PieceD) : ByteArray := if piecesB ps then txtP ps else ⟨#[]⟩

end Go.Proofs.YtnjgmhdmjaijgaaGreatDoor

/- Lines of a text: the given side. -/
namespace Go.Proofs.YtnjgmhdmjaijgaaGreatDoor
open Go Go.RowKit

/-- The lines ahead of an index, and where the line at it begins. -/
def lnAt (s : ByteArray) : Nat → List ByteArray × Nat
  | 0 => ([], 0)
  | i + 1 => if s.data[i]? = some 10 then ((lnAt s i).1 ++ [s.extract (lnAt s i).2 i], i + 1) else lnAt s i
def linesP (s : ByteArray) : List ByteArray := (lnAt s s.size).1
def linesOk (s : ByteArray) : Bool := ((lnAt s s.size).2 : Int) == (s.size : Int)
theorem lnAt_le (s : ByteArray) (i : Nat) : (lnAt s i).2 ≤ i ∧ (lnAt s i).1.length ≤ i := by
  induction i with
  | zero => exact ⟨Nat.le_refl _, Nat.le_refl _⟩
  | succ i ih =>
    rw [lnAt]
    split
    · refine ⟨Nat.le_refl _, ?_⟩
      rw [List.length_append]
      simp only [List.length_cons, List.length_nil]
      omega
    · omega
theorem lnAt_hit {s : ByteArray} {i : Nat} (h : i < s.size) (hb : s.data[i]'h = 10) : lnAt s (i + 1) = ((lnAt s i).1 ++ [s.extract (lnAt s i).2 i], i + 1) := by
  rw [lnAt, if_pos (by rw [Array.getElem?_eq_getElem h, hb])]
theorem lnAt_miss {s : ByteArray} {i : Nat} (h : i < s.size) (hb : s.data[i]'h ≠ 10) : lnAt s (i + 1) = lnAt s i := by
  rw [lnAt, if_neg (by rw [Array.getElem?_eq_getElem h]; intro e; injection e with e; exact hb e)]

theorem info_string2 : (Tryz.prog.info? 9).map (fun i => (i.zero, i.size, i.bytes)) = some (some (.string ⟨#[]⟩), 1, 16) := by kernel_rfl
set_option maxHeartbeats 1000000 in
set_option maxRecDepth 10000 in
theorem spec_l15Lines (s : ByteArray) (w : World) (hl : s.size ≤ 1000000000) :
    Calls Tryz.prog 19 #[.string s] w fun e w' => ∃ A' c', e = .returned (.tuple #[.slice A' (linesP s).length c', .bool (linesOk s)]) ∧ OwnC w' w.heap.size w'.heap.size 9 1 A' (linesP s).length c' ((linesP s).map Value.string) ∧ Below w.heap.size w w' := by
  obtain ⟨iS, hi0, hz0, hz1, hz2⟩ := info_parts info_string2
  go_enter Tryz.func19, Tryz.ntmps19
  go_wp2_with (fail)
  go_loopw [4, 5, 6] (fun ov fv iv wr => ∃ (i f : Nat) (A' : Option Addr) (c' : Nat) (out : List ByteArray), i ≤ s.size ∧ f ≤ i ∧ iv = .int .i64 i ∧ fv = .int .i64 f ∧ ov = .slice A' out.length c' ∧ OwnC wr w.heap.size wr.heap.size 9 1 A' out.length c' (out.map Value.string) ∧ Below w.heap.size w wr ∧ Hid (lnAt s i = (out, f)) ∧ out.length ≤ i) (fun _ _ iv _ => s.size - (intOf iv).toNat)
  case atStart =>
    exact ⟨0, 0, some ⟨w.heap.size, 0, none⟩, 0, [], Nat.zero_le _, Nat.le_refl _, rfl, rfl, rfl, (OwnC.lit _ 1 #[] (Nat.le_refl _) (Nat.zero_le _) rfl).mono (Nat.le_refl _) (by simp), by (repeat (first | exact Below.refl _ _ | assumption | apply Below.drew | apply below_drewN | (refine Below.alloc ?_ (by first | omega | (simp; done) | (simp; omega)) _) | (refine Below.setCell ?_ (by first | omega | (simp; done) | (simp; omega)) _))), Lib.hid rfl, by simp⟩
  case round =>
    obtain ⟨i, f, A', c', out, hi, hf, rfl, rfl, rfl, ho, hb, HO, hol⟩ := hrel
    have hzs := hb.size
    by_cases hlt : i < s.size
    · by_cases hb10 : s.data[i]'hlt = 10
      · have HN := Lib.hid (lnAt_hit hlt hb10)
        rw [HO.out] at HN
        have hb1 : (((s[i]'hlt).toNat : Int) == 10) = true := by
          rw [show s[i]'hlt = 10 from hb10]; rfl
        obtain ⟨x, hx⟩ : ∃ x, x = s.extract f i := ⟨_, rfl⟩
        have HX := Lib.hid hx
        replace hx := hx.symm
        have f1 : (0 : Int) ≤ (f : Int) := by omega
        have f2 : (f : Int) ≤ (i : Int) := by omega
        have f3 : (i : Int) ≤ (s.size : Int) := by omega
        clear hb10
        go_wp2_with (at_builtin; refine wpList_append1 wr [.string x] _ rfl (.tmp 18) (.tmp 23) _ rfl 9 iS _ 1 16 Tryz.underlying46 hi0 hz0 hz1 hz2 rfl (by decide) rfl ho hzs 1 rfl rfl (by simp [Value.oneCell']) (by omega) (by decide) ?_; intro A2 c2 w2 ho2 hg2 hb2 hz2')
        go_roundw
        case rel =>
          refine ⟨i + 1, i + 1, A2, c2, out ++ [s.extract f i], by omega, Nat.le_refl _, by go_num, by go_num, by simp, ?_, hb.trans hb2, Lib.hid HN.out, by simp; omega⟩
          rw [← HX.out]
          show OwnC _ _ _ _ _ _ _ _ _
          rw [List.map_append, List.length_append]
          exact ho2
        case measure => simp [intOf]; omega
      · have HN := Lib.hid (lnAt_miss hlt hb10)
        rw [HO.out] at HN
        have hb1 : (((s[i]'hlt).toNat : Int) == 10) = false := by
          have hq : s[i]'hlt ≠ 10 := hb10
          rw [beq_eq_false_iff_ne]
          intro e
          apply hq
          apply UInt8.toNat_inj.1
          have e2 : (10 : UInt8).toNat = 10 := rfl
          rw [e2]
          omega
        clear hb10
        go_wp2_with (fail)
        go_roundw
        case rel => exact ⟨i + 1, f, A', c', out, by omega, by omega, by go_num, rfl, rfl, ho, hb, Lib.hid HN.out, by omega⟩
        case measure => simp [intOf]; omega
    · obtain rfl : i = s.size := by omega
      have HF : Hid (linesP s = out ∧ linesOk s = ((f : Int) == (s.size : Int))) := Lib.hid (by rw [linesP, linesOk, HO.out]; exact ⟨rfl, rfl⟩)
      go_wp2_with (fail)
      go_ret2
      rw [HF.out.1, HF.out.2]
      exact ⟨_, _, rfl, ho, hb⟩

end Go.Proofs.YtnjgmhdmjaijgaaGreatDoor

/- Lines of a text, plain: what strings.Split cuts and what the given side reads. -/
namespace Go.Proofs.YtnjgmhdmjaijgaaGreatDoor
open Go Go.RowKit

def lnL : List UInt8 → List (List UInt8)
  | [] => [[]]
  | b :: r => if b = 10 then [] :: lnL r else match lnL r with
    | [] => [[b]]
    | x :: xs => (b :: x) :: xs
theorem lnL_hit : ∀ (t : List UInt8) (j : Nat), (∀ k, k < j → t[k]? ≠ some 10) → t[j]? = some 10 → lnL t = t.take j :: lnL (t.drop (j + 1))
  | [], j, _, h => by simp at h
  | b :: r, 0, _, h => by
    simp at h
    subst h
    rw [lnL, if_pos rfl]
    simp
  | b :: r, j + 1, h0, h => by
    have hb : b ≠ 10 := by
      have := h0 0 (by omega)
      simpa using this
    have ih := lnL_hit r j (fun k hk => by
      have := h0 (k + 1) (by omega)
      simpa using this) (by simpa using h)
    rw [lnL, if_neg hb, ih]
    simp
theorem lnL_none : ∀ (t : List UInt8), (∀ k : Nat, t[k]? ≠ some 10) → lnL t = [t]
  | [], _ => rfl
  | b :: r, h0 => by
    have hb : b ≠ 10 := by
      have := h0 0
      simpa using this
    have ih := lnL_none r (fun k => by
      have := h0 (k + 1)
      simpa using this)
    rw [lnL, if_neg hb, ih]
theorem split_lnL : ∀ t : List UInt8, Lib.splitK [10] 0 (Lib.count t [10]) t = lnL t
  | [] => by rw [Lib.count_one]; rfl
  | b :: r => by
    have ih := split_lnL r
    by_cases h : b = 10
    · subst h
      rw [Lib.count_cons_eq, Nat.add_comm, Lib.splitK]
      have hix : Lib.index (10 :: r) [10] = 0 := by rw [Lib.index]; simp [List.isPrefixOf]
      rw [hix, lnL, if_pos rfl, ← ih]
      simp
    · rw [Lib.count_cons_ne b 10 r h]
      have hp : ([10] : List UInt8).isPrefixOf (b :: r) = false := by simp [List.isPrefixOf, Ne.symm h]
      have hix : Lib.index (b :: r) [10] = if Lib.index r [10] == -1 then -1 else Lib.index r [10] + 1 := by rw [Lib.index, hp]; simp
      rw [lnL, if_neg h, ← ih]
      cases hc : Lib.count r [10] with
      | zero => rfl
      | succ k =>
        rw [Lib.splitK, Lib.splitK, hix]
        by_cases hm : Lib.index r [10] = -1
        · rw [hm]; rfl
        · have hge := Lib.index_ge r [10]
          obtain ⟨j, hj⟩ : ∃ j : Nat, Lib.index r [10] = j := ⟨(Lib.index r [10]).toNat, by omega⟩
          have e1 : (Lib.index r [10] == -1) = false := by simpa using hm
          have e2 : (((j : Int) + 1) == -1) = false := by rw [beq_eq_false_iff_ne]; omega
          have e3 : ((j : Int) == -1) = false := by rw [beq_eq_false_iff_ne]; omega
          have e4 : ((j : Int) + 1).toNat = j + 1 := by omega
          rw [e1, hj]
          simp [e2, e4]
theorem ext_list (s : ByteArray) (f i : Nat) (_hi : i ≤ s.size) : (s.extract f i).data.toList = (s.data.toList.drop f).take (i - f) := by
  simp [ByteArray.data_extract, List.extract_eq_take_drop]
theorem lnAt_inv (s : ByteArray) : ∀ i, i ≤ s.size → lnL s.data.toList = (lnAt s i).1.map (·.data.toList) ++ lnL (s.data.toList.drop (lnAt s i).2) ∧ ∀ k, (lnAt s i).2 ≤ k → k < i → s.data.toList[k]? ≠ some 10
  | 0, _ => by
    refine ⟨by simp [lnAt], ?_⟩
    intro k _ hk
    omega
  | i + 1, h => by
    obtain ⟨h1, h2⟩ := lnAt_inv s i (by omega)
    have hle := (lnAt_le s i).1
    have hlt : i < s.size := by omega
    have hget : s.data.toList[i]? = some (s.data[i]'hlt) := by
      rw [Array.getElem?_toList]
      exact Array.getElem?_eq_getElem hlt
    by_cases hb : s.data[i]'hlt = 10
    · rw [lnAt_hit hlt hb]
      refine ⟨?_, ?_⟩
      · have hh := lnL_hit (s.data.toList.drop (lnAt s i).2) (i - (lnAt s i).2) (fun k hk => by
          rw [List.getElem?_drop]
          exact h2 _ (by omega) (by omega)) (by
          rw [List.getElem?_drop, show (lnAt s i).2 + (i - (lnAt s i).2) = i by omega, hget, hb])
        rw [h1, hh, List.map_append, List.map_cons, List.map_nil, List.append_assoc, ext_list s _ i (by omega), List.drop_drop]
        simp only [List.cons_append, List.nil_append]
        rw [show (lnAt s i).2 + (i - (lnAt s i).2 + 1) = i + 1 by omega]
      · intro k hk1 hk2
        simp only at hk1
        omega
    · rw [lnAt_miss hlt hb]
      refine ⟨h1, fun k hk1 hk2 => ?_⟩
      by_cases hki : k = i
      · rw [hki, hget]
        intro e
        injection e with e
        exact hb e
      · exact h2 k hk1 (by omega)
/-- What the two sides read: the lines, and what stands behind the last end of a line. -/
theorem lnL_lines (s : ByteArray) : lnL s.data.toList = (linesP s).map (·.data.toList) ++ [s.data.toList.drop (lnAt s s.size).2] := by
  obtain ⟨h1, h2⟩ := lnAt_inv s s.size (Nat.le_refl _)
  rw [h1, linesP]
  congr 1
  apply lnL_none
  intro k
  rw [List.getElem?_drop]
  by_cases hk : (lnAt s s.size).2 + k < s.size
  · exact h2 _ (by omega) hk
  · rw [List.getElem?_eq_none (by rw [Array.length_toList]; have : s.size = s.data.size := rfl; omega)]
    simp
theorem split_lines (s : ByteArray) : (Lib.splitB ⟨#[10]⟩ 0 (Lib.count s.data.toList [10]) s).map (·.data.toList) = (linesP s).map (·.data.toList) ++ [s.data.toList.drop (lnAt s s.size).2] := by
  rw [Lib.splitB_data, ← lnL_lines, ← split_lnL]

end Go.Proofs.YtnjgmhdmjaijgaaGreatDoor

/- ReadColours: the plain functions, one digit. -/
namespace Go.Proofs.YtnjgmhdmjaijgaaGreatDoor
open Go Go.RowKit

def digI (b : UInt8) : Int := (b.toNat : Int) - 48
def digS (b : UInt8) : Int := if b.toNat < 48 ∨ 57 < b.toNat then -1 else (b.toNat : Int) - 48
theorem dig_carrier (b : UInt8) : carrierB (digS b) = carrierB (digI b) ∧ (carrierB (digI b) = true → digI b = digS b) := by
  by_cases h : b.toNat < 48 ∨ 57 < b.toNat
  · have e1 : digS b = -1 := by rw [digS, if_pos h]
    have e2 : carrierB (digI b) = false := by
      cases hc : carrierB (digI b)
      · rfl
      · have := inR_iff.1 hc
        unfold digI at this
        omega
    rw [e1, e2]
    exact ⟨by decide, fun x => by cases x⟩
  · have e1 : digS b = digI b := by rw [digS, if_neg h]; rfl
    rw [e1]
    exact ⟨rfl, fun _ => rfl⟩
theorem digs_row (l : List UInt8) (n : Int) : rowOfB n (l.map digS) = rowOfB n (l.map digI) ∧ (rowOfB n (l.map digI) = true → l.map digI = l.map digS) := by
  have h1 : (l.map digS).all carrierB = (l.map digI).all carrierB := by
    rw [List.all_map, List.all_map]
    exact congrFun (congrArg List.all rfl) _ |>.trans (by congr 1; funext b; exact (dig_carrier b).1)
  refine ⟨by unfold rowOfB; rw [h1, List.length_map, List.length_map], fun h => ?_⟩
  unfold rowOfB at h
  simp only [Bool.and_eq_true, List.all_eq_true] at h
  exact List.map_congr_left fun b hb => (dig_carrier b).2 (h.2 _ (List.mem_map_of_mem hb))
def rcS (s : ByteArray) : List (List Int) := (linesP s).map fun l => l.data.toList.map digS
def rcI (s : ByteArray) : List (List Int) := (linesP s).map fun l => l.data.toList.map digI
/-- The columns: the length of the first line. -/
def rcN (s : ByteArray) : Int := ((((linesP s)[0]?).getD (⟨#[]⟩ : ByteArray)).size : Int)
def rcOk (s : ByteArray) : Bool := linesOk s && inR (linesP s).length 1 8 && coloursB (rcN s) (rcS s)
def rcRows (s : ByteArray) : List (List Int) := if rcOk s then rcS s else []
def rcCols (s : ByteArray) : Int := if rcOk s then rcN s else 0
theorem rc_same (s : ByteArray) (n : Int) : coloursB n (rcS s) = coloursB n (rcI s) ∧ (coloursB n (rcI s) = true → rcI s = rcS s) := by
  have h1 : (rcS s).all (rowOfB n) = (rcI s).all (rowOfB n) := by
    unfold rcS rcI
    rw [List.all_map, List.all_map]
    congr 1
    funext l
    exact (digs_row _ n).1
  have h2 : (rcS s).length = (rcI s).length := by simp [rcS, rcI]
  refine ⟨by unfold coloursB; rw [h1, h2], fun h => ?_⟩
  unfold coloursB at h
  simp only [Bool.and_eq_true, List.all_eq_true] at h
  exact List.map_congr_left fun l hl => (digs_row _ n).2 (h.2 _ (List.mem_map_of_mem hl))
theorem rcRows_length (s : ByteArray) : (rcRows s).length ≤ 8 := by
  unfold rcRows
  split
  · rename_i h
    unfold rcOk at h
    simp only [Bool.and_eq_true] at h
    have := inR_iff.1 h.1.2
    simp only [rcS, List.length_map]
    omega
  · simp
/-- What strings.Split gives ends with nothing just where the text ends with the end of a line. -/
theorem lines_last (s : ByteArray) : linesOk s = decide (s.data.toList.drop (lnAt s s.size).2 = []) := by
  have h := (lnAt_le s s.size).1
  have hs : s.size = s.data.toList.length := ba_size s
  unfold linesOk
  by_cases he : (lnAt s s.size).2 = s.size
  · rw [he, hs, List.drop_length]
    simp
  · have h1 : (((lnAt s s.size).2 : Int) == (s.size : Int)) = false := by rw [beq_eq_false_iff_ne]; omega
    rw [h1, decide_eq_false]
    rw [List.drop_eq_nil_iff]
    omega

theorem spec_l15Digit (b : UInt8) (w : World) : Calls Tryz.prog 20 #[.int .u8 (b.toNat : Int)] w fun e w' => e = .returned (.int .i64 (digS b)) ∧ w = w' := by
  have hb := b.toNat_lt
  by_cases h1 : b.toNat < 48
  · have HF : Hid (digS b = -1) := Lib.hid (by rw [digS, if_pos (.inl h1)])
    have d1 : decide ((b.toNat : Int) < 48) = true := decide_eq_true (by omega)
    go_enter Tryz.func20, Tryz.ntmps20
    go_wp2_with (fail)
    go_ret
    exact ⟨by rw [HF.out]; rfl, rfl⟩
  · have d1 : decide ((b.toNat : Int) < 48) = false := decide_eq_false (by omega)
    by_cases h2 : 57 < b.toNat
    · have HF : Hid (digS b = -1) := Lib.hid (by rw [digS, if_pos (.inr h2)])
      have d2 : decide ((57 : Int) < (b.toNat : Int)) = true := decide_eq_true (by omega)
      go_enter Tryz.func20, Tryz.ntmps20
      go_wp2_with (fail)
      go_ret
      exact ⟨by rw [HF.out]; rfl, rfl⟩
    · have HF : Hid (digS b = (b.toNat : Int) - 48) := Lib.hid (by rw [digS, if_neg (by omega)])
      have d2 : decide ((57 : Int) < (b.toNat : Int)) = false := decide_eq_false (by omega)
      have w1 : IntKind.u8.wrap ((b.toNat : Int) - 48) = (b.toNat : Int) - 48 := IntWalk.u8_in _ ⟨by omega, by omega⟩
      have w2 : IntKind.i64.wrap ((b.toNat : Int) - 48) = (b.toNat : Int) - 48 := IntWalk.i64_in _ ⟨by omega, by omega⟩
      go_enter Tryz.func20, Tryz.ntmps20
      go_wp2_with (fail)
      go_ret
      exact ⟨by rw [HF.out]; rfl, rfl⟩

end Go.Proofs.YtnjgmhdmjaijgaaGreatDoor
