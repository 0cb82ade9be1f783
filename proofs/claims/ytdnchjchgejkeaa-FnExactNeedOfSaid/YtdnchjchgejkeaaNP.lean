/- NeedOf: the plain functions. -/
import Derived.Test.YtdnchjchgejkeaaVP
import Derived.Test.YtdnchjchgejkeaaSP
namespace Go.Proofs.Ytdnchjchgejkeaa
open Go.RowKit

def sumP (cnt : Bool) : List PieceD → Int → Int
  | [], acc => acc
  | p :: r, acc =>
    if p.kind = 12 then sumP cnt (r.drop p.len.toNat) (wrap64 (acc + wrap64 (p.times * sumP cnt (r.take p.len.toNat) 0)))
    else sumP cnt r (wrap64 (acc + (if cnt then p.times else wrap64 (p.times * takenB p.kind))))
termination_by l => l.length
decreasing_by all_goals (simp; try omega)
def openP (cnt : Bool) : List PieceD → Int → Int
  | [], o => o
  | p :: r, o => if p.kind = 12 then openP cnt (r.drop p.len.toNat) (if p.times = 0 then sumP cnt (r.take p.len.toNat) 0 else o) else openP cnt r o
termination_by l => l.length
decreasing_by all_goals (simp; try omega)
def openPart : List PieceD → List PieceD
  | [] => []
  | p :: r => if p.kind = 12 ∧ p.times = 0 then r.take p.len.toNat else openPart r
abbrev Good (d : Nat) (l : List PieceD) : Prop := (rangeP d l).isSome = true
theorem sumP_nil (cnt : Bool) (acc : Int) : sumP cnt [] acc = acc := by rw [sumP]
theorem sumP_group {cnt : Bool} {p : PieceD} {r : List PieceD} (h : p.kind = 12) (acc : Int) : sumP cnt (p :: r) acc = sumP cnt (r.drop p.len.toNat) (wrap64 (acc + wrap64 (p.times * sumP cnt (r.take p.len.toNat) 0))) := by rw [sumP, if_pos h]
theorem sumP_plain {cnt : Bool} {p : PieceD} {r : List PieceD} (h : p.kind ≠ 12) (acc : Int) : sumP cnt (p :: r) acc = sumP cnt r (wrap64 (acc + (if cnt then p.times else wrap64 (p.times * takenB p.kind)))) := by rw [sumP, if_neg h]
theorem openP_nil (cnt : Bool) (o : Int) : openP cnt [] o = o := by rw [openP]
theorem openP_group {cnt : Bool} {p : PieceD} {r : List PieceD} (h : p.kind = 12) (o : Int) : openP cnt (p :: r) o = openP cnt (r.drop p.len.toNat) (if p.times = 0 then sumP cnt (r.take p.len.toNat) 0 else o) := by rw [openP, if_pos h]
theorem openP_plain {cnt : Bool} {p : PieceD} {r : List PieceD} (h : p.kind ≠ 12) (o : Int) : openP cnt (p :: r) o = openP cnt r o := by rw [openP, if_neg h]
theorem good_plain {d : Nat} {p : PieceD} {r : List PieceD} (h : Good d (p :: r)) (hk : p.kind ≠ 12) : plainP p = true ∧ Good d r := by
  unfold Good at h
  rw [rangeP, if_neg hk] at h
  split at h
  · exact ⟨by assumption, h⟩
  · cases h
theorem good_group {d : Nat} {p : PieceD} {r : List PieceD} (h : Good d (p :: r)) (hk : p.kind = 12) : d < 3 ∧ 1 ≤ p.len ∧ p.len ≤ r.length ∧ 0 ≤ p.times ∧ p.times ≤ 16 ∧ (0 < d → p.times ≠ 0) ∧ Good (d + 1) (r.take p.len.toNat) ∧ Good d (r.drop p.len.toNat) := by
  unfold Good at h ⊢
  rw [rangeP, if_pos hk] at h
  split at h
  · rename_i hg
    have h2 := hg.2
    unfold groupP at h2
    simp only [Bool.and_eq_true, Bool.not_eq_true', Bool.and_eq_false_iff, decide_eq_false_iff_not] at h2
    have h3 := inR_iff.1 h2.1.1
    have h4 := inR_iff.1 h2.2
    split at h
    · cases h
    · rename_i e
      rw [Option.isSome_map] at h
      exact ⟨hg.1, h4.1, h4.2, h3.1, h3.2, fun hd ht => by rcases h2.1.2 with h5 | h5 <;> omega, by rw [e]; rfl, h⟩
  · cases h
theorem good_deep (n d : Nat) (hd : 0 < d) : ∀ l : List PieceD, l.length ≤ n → Good d l → ∀ p ∈ l, ¬ (p.kind = 12 ∧ p.times = 0) := by
  induction n generalizing d with
  | zero => intro l hl _ p hp; have : l = [] := by cases l <;> simp_all
            subst this; simp at hp
  | succ n ih =>
    intro l hl h p hp
    cases l with
    | nil => simp at hp
    | cons q r =>
      simp only [List.length_cons] at hl
      by_cases hk : q.kind = 12
      · obtain ⟨_, h1, h2, _, _, h3, h4, h5⟩ := good_group h hk
        rcases List.mem_cons.1 hp with rfl | hp
        · exact fun e => h3 hd e.2
        · rw [← List.take_append_drop q.len.toNat r] at hp
          rcases List.mem_append.1 hp with hp | hp
          · exact ih (d + 1) (by omega) _ (by simp; omega) h4 p hp
          · exact ih d hd _ (by simp; omega) h5 p hp
      · rcases List.mem_cons.1 hp with rfl | hp
        · exact fun e => hk e.1
        · exact ih d hd _ (by omega) (good_plain h hk).2 p hp
theorem openPart_skip {a b : List PieceD} (h : ∀ p ∈ a, ¬ (p.kind = 12 ∧ p.times = 0)) : openPart (a ++ b) = openPart b := by
  induction a with
  | nil => rfl
  | cons p a ih =>
    rw [List.cons_append, openPart, if_neg (h p (by simp)), ih fun q hq => h q (by simp [hq])]
theorem openP_zero (cnt : Bool) (d n : Nat) : ∀ (l : List PieceD) (o : Int), l.length ≤ n → rangeP d l = some 0 → openP cnt l o = o := by
  induction n with
  | zero => intro l o hl _; have : l = [] := by cases l <;> simp_all
            subst this; exact openP_nil _ _
  | succ n ih =>
    intro l o hl h
    cases l with
    | nil => exact openP_nil _ _
    | cons p r =>
      simp only [List.length_cons] at hl
      by_cases hk : p.kind = 12
      · have hg : Good d (p :: r) := by unfold Good; rw [h]; rfl
        obtain ⟨h0, _, _, _, _, _, h4, h5⟩ := good_group hg hk
        have h6 := h
        rw [rangeP, if_pos hk] at h6
        split at h6
        · split at h6
          · cases h6
          · rw [Option.map_eq_some_iff] at h6
            obtain ⟨o', ho', e⟩ := h6
            have ht : p.times ≠ 0 := by intro ht; rw [if_pos ht] at e; omega
            rw [if_neg ht] at e
            rw [openP_group hk, if_neg ht]
            exact ih _ _ (by simp; omega) (by rw [ho']; congr 1; omega)
        · cases h6
      · rw [openP_plain hk]
        rw [rangeP, if_neg hk] at h
        split at h
        · exact ih _ _ (by omega) h
        · cases h
theorem openP_part (cnt : Bool) (n : Nat) : ∀ l : List PieceD, l.length ≤ n → okP (rangeP 0 l) = true → openP cnt l 0 = sumP cnt (openPart l) 0 := by
  induction n with
  | zero => intro l hl _; have : l = [] := by cases l <;> simp_all
            subst this; rw [openP_nil, openPart, sumP_nil]
  | succ n ih =>
    intro l hl h
    cases l with
    | nil => rw [openP_nil, openPart, sumP_nil]
    | cons p r =>
      simp only [List.length_cons] at hl
      have hg : Good 0 (p :: r) := by
        unfold Good
        cases e : rangeP 0 (p :: r) with
        | none => rw [e] at h; cases h
        | some o => rfl
      by_cases hk : p.kind = 12
      · obtain ⟨h0, _, _, _, _, _, h4, h5⟩ := good_group hg hk
        have h6 := h
        rw [rangeP, if_pos hk] at h6
        split at h6
        · split at h6
          · cases h6
          · cases ho : rangeP 0 (r.drop p.len.toNat) with
            | none => rw [ho] at h6; cases h6
            | some o =>
              rw [ho] at h6
              have h7 : (if p.times = 0 then 1 else 0) + o ≤ 1 := of_decide_eq_true h6
              rw [openP_group hk]
              by_cases ht : p.times = 0
              · rw [if_pos ht] at h7 ⊢
                rw [openP_zero cnt 0 n _ _ (by simp; omega) (by rw [ho]; congr 1; omega), openPart, if_pos ⟨hk, ht⟩]
              · rw [if_neg ht] at h7 ⊢
                rw [openPart, if_neg (fun e => ht e.2)]
                have e2 := openPart_skip (b := r.drop p.len.toNat) (good_deep r.length 1 (by omega) (r.take p.len.toNat) (by simp; omega) h4)
                rw [List.take_append_drop] at e2
                rw [e2]
                exact ih _ (by simp; omega) (by rw [ho]; exact decide_eq_true (by omega))
        · cases h6
      · rw [openP_plain hk, openPart, if_neg (fun e => hk e.1)]
        rw [rangeP, if_neg hk] at h
        split at h
        · exact ih _ (by omega) h
        · cases h
theorem openPart_good (n : Nat) : ∀ l : List PieceD, l.length ≤ n → Good 0 l → ∃ d, Good d (openPart l) := by
  induction n with
  | zero => intro l hl _; have : l = [] := by cases l <;> simp_all
            subst this; exact ⟨0, by rw [openPart]; unfold Good; rw [rangeP_nil]; rfl⟩
  | succ n ih =>
    intro l hl h
    cases l with
    | nil => exact ⟨0, by rw [openPart]; unfold Good; rw [rangeP_nil]; rfl⟩
    | cons p r =>
      simp only [List.length_cons] at hl
      by_cases hk : p.kind = 12
      · obtain ⟨h0, _, _, _, _, _, h4, h5⟩ := good_group h hk
        by_cases ht : p.times = 0
        · rw [openPart, if_pos ⟨hk, ht⟩]; exact ⟨1, h4⟩
        · rw [openPart, if_neg (fun e => ht e.2)]
          have e2 := openPart_skip (b := r.drop p.len.toNat) (good_deep r.length 1 (by omega) (r.take p.len.toNat) (by simp; omega) h4)
          rw [List.take_append_drop] at e2
          rw [e2]
          exact ih _ (by simp; omega) h5
      · rw [openPart, if_neg (fun e => hk e.1)]
        exact ih _ (by omega) (good_plain h hk).2
/-- From k on: the list is good at this depth. -/
theorem good_at_plain {d k : Nat} {ps : List PieceD} {p : PieceD} (h : Good d (ps.drop k)) (hp : ps[k]? = some p) (hk : p.kind ≠ 12) : plainP p = true ∧ Good d (ps.drop (k + 1)) := by
  rw [drop_cons hp] at h; exact good_plain h hk
theorem good_at_group {d k : Nat} {ps : List PieceD} {p : PieceD} (h : Good d (ps.drop k)) (hp : ps[k]? = some p) (hk : p.kind = 12) : ∃ n : Nat, p.len = (n : Int) ∧ 1 ≤ n ∧ k + 1 + n ≤ ps.length ∧ d < 3 ∧ (0 < d → p.times ≠ 0) ∧ 0 ≤ p.times ∧ p.times ≤ 16 ∧ Good (d + 1) (segP ps (k + 1) (k + 1 + n)) ∧ Good d (ps.drop (k + 1 + n)) ∧
    (∀ cnt acc, sumP cnt (ps.drop k) acc = sumP cnt (ps.drop (k + 1 + n)) (wrap64 (acc + wrap64 (p.times * sumP cnt (segP ps (k + 1) (k + 1 + n)) 0)))) ∧ (∀ cnt o, openP cnt (ps.drop k) o = openP cnt (ps.drop (k + 1 + n)) (if p.times = 0 then sumP cnt (segP ps (k + 1) (k + 1 + n)) 0 else o)) := by
  rw [drop_cons hp] at h
  have hkl := (List.getElem?_eq_some_iff.1 hp).1
  obtain ⟨h0, h1, h2, h3, h4, h5, h6, h7⟩ := good_group h hk
  rw [List.length_drop] at h2
  have e1 : (ps.drop (k + 1)).take p.len.toNat = segP ps (k + 1) (k + 1 + p.len.toNat) := by unfold segP; congr 1; omega
  have e2 : (ps.drop (k + 1)).drop p.len.toNat = ps.drop (k + 1 + p.len.toNat) := by rw [List.drop_drop]
  rw [e1] at h6
  rw [e2] at h7
  refine ⟨p.len.toNat, by omega, by omega, by omega, h0, h5, h3, h4, h6, h7, fun cnt acc => ?_, fun cnt o => ?_⟩
  · rw [drop_cons hp, sumP_group hk, e1, e2]
  · rw [drop_cons hp, openP_group hk, e1, e2]
theorem sum_at_plain {k : Nat} {ps : List PieceD} {p : PieceD} (hp : ps[k]? = some p) (hk : p.kind ≠ 12) (cnt : Bool) (acc : Int) : sumP cnt (ps.drop k) acc = sumP cnt (ps.drop (k + 1)) (wrap64 (acc + (if cnt then p.times else wrap64 (p.times * takenB p.kind)))) := by
  rw [drop_cons hp, sumP_plain hk]

end Go.Proofs.Ytdnchjchgejkeaa
