/- ValidPieces. -/
import Derived.Test.YtfgbhhkmdeljoaaCO
import Derived.Test.YtfgbhhkmdeljoaaFP
import Derived.BigGuard
import Derived.BigCall
namespace Go.Proofs.Ytfgbhhkmdeljoaa
open Go.RowKit

def plainP (p : PieceD) : Bool := isStitchB p.kind && inR p.times 1 16 && decide (p.len = 0)
def groupP (d : Nat) (p : PieceD) (m : Nat) : Bool := inR p.times 0 16 && !(decide (p.times = 0) && decide (0 < d)) && inR p.len 1 m
def rangeP (d : Nat) : List PieceD → Option Nat
  | [] => some 0
  | p :: r =>
    if p.kind = 12 then
      if d < 3 ∧ groupP d p r.length = true then
        match rangeP (d + 1) (r.take p.len.toNat) with
        | none => none
        | some _ => (rangeP d (r.drop p.len.toNat)).map (fun o => (if p.times = 0 then 1 else 0) + o)
      else none
    else if plainP p then rangeP d r else none
termination_by l => l.length
decreasing_by all_goals (simp; try omega)
def okP : Option Nat → Bool
  | none => false
  | some o => decide (o ≤ 1)
def piecesB (ps : List PieceD) : Bool := decide (ps.length ≤ 24) && okP (rangeP 0 ps)
def segP (ps : List PieceD) (a b : Nat) : List PieceD := (ps.drop a).take (b - a)
theorem segP_nil (ps : List PieceD) (a : Nat) : segP ps a a = [] := by simp [segP]
theorem segP_all (ps : List PieceD) : segP ps 0 ps.length = ps := by simp [segP]
theorem segP_length {ps : List PieceD} {a b : Nat} (h : b ≤ ps.length) : (segP ps a b).length = b - a := by simp [segP]; omega
theorem segP_cons {ps : List PieceD} {a b : Nat} {p : PieceD} (hp : ps[a]? = some p) (h : a < b) : segP ps a b = p :: segP ps (a + 1) b := by
  unfold segP
  have ha : a < ps.length := by
    by_cases hlt : a < ps.length
    · exact hlt
    · rw [List.getElem?_eq_none (by omega)] at hp; cases hp
  rw [List.drop_eq_getElem_cons ha, show b - a = (b - (a + 1)) + 1 by omega, List.take_succ_cons]
  congr 1
  rw [List.getElem?_eq_getElem ha] at hp
  injection hp
theorem segP_take {ps : List PieceD} {a b n : Nat} (h : a + n ≤ b) : (segP ps a b).take n = segP ps a (a + n) := by
  unfold segP
  rw [List.take_take]
  congr 1
  omega
theorem segP_drop {ps : List PieceD} {a b n : Nat} : (segP ps a b).drop n = segP ps (a + n) b := by
  unfold segP
  rw [List.drop_take, List.drop_drop]
  congr 1
  omega
theorem rangeP_nil (d : Nat) : rangeP d [] = some 0 := by rw [rangeP]
theorem rangeP_plain {d : Nat} {p : PieceD} {r : List PieceD} (h : p.kind ≠ 12) (hp : plainP p = true) : rangeP d (p :: r) = rangeP d r := by rw [rangeP, if_neg h, if_pos hp]
theorem rangeP_bad {d : Nat} {p : PieceD} {r : List PieceD} (h : p.kind ≠ 12) (hp : plainP p = false) : rangeP d (p :: r) = none := by rw [rangeP, if_neg h, if_neg (by simp [hp])]
theorem rangeP_group {d : Nat} {p : PieceD} {r : List PieceD} (h : p.kind = 12) (hd : ¬ (d < 3 ∧ groupP d p r.length = true)) : rangeP d (p :: r) = none := by rw [rangeP, if_pos h, if_neg hd]
theorem rangeP_inner {d : Nat} {p : PieceD} {r : List PieceD} (h : p.kind = 12) (hi : rangeP (d + 1) (r.take p.len.toNat) = none) : rangeP d (p :: r) = none := by
  rw [rangeP, if_pos h]
  split
  · rw [hi]
  · rfl
theorem rangeP_open {d : Nat} {p : PieceD} {r : List PieceD} (h : p.kind = 12) (hd : d < 3) (hg : groupP d p r.length = true) (hi : (rangeP (d + 1) (r.take p.len.toNat)).isSome = true) : rangeP d (p :: r) = (rangeP d (r.drop p.len.toNat)).map (fun o => (if p.times = 0 then 1 else 0) + o) := by
  rw [rangeP, if_pos h, if_pos ⟨hd, hg⟩]
  split
  · rename_i e; rw [e] at hi; cases hi
  · rfl
theorem rangeP_zero (n d : Nat) (hd : 0 < d) : ∀ l : List PieceD, l.length ≤ n → ∀ o, rangeP d l = some o → o = 0 := by
  induction n with
  | zero =>
    intro l hl o h
    have : l = [] := by cases l <;> simp_all
    subst this
    rw [rangeP_nil] at h
    injection h with h
    exact h.symm
  | succ n ih =>
    intro l hl o h
    cases l with
    | nil => rw [rangeP_nil] at h; injection h with h; exact h.symm
    | cons p r =>
      simp at hl
      rw [rangeP] at h
      split at h
      · split at h
        · rename_i hg
          split at h
          · cases h
          · rw [Option.map_eq_some_iff] at h
            obtain ⟨o', ho', e⟩ := h
            have := ih _ (by simp; omega) o' ho'
            have ht : p.times ≠ 0 := by
              intro ht
              have := hg.2
              simp [groupP, ht, hd] at this
            rw [if_neg ht] at e
            omega
        · cases h
      · split at h
        · exact ih r hl o h
        · cases h
def openOf : Option Nat → Int
  | none => 0
  | some o => o


end Go.Proofs.Ytfgbhhkmdeljoaa
