/- MirrorColours: the plain function, and slices of slices that grow. -/
import Derived.Test.YtfgbhhkmdeljoaaRO
import Derived.Test.YtfgbhhkmdeljoaaCC
namespace Go.Proofs.Ytfgbhhkmdeljoaa
open Go.RowKit

structure ColX where
  n : Int
  xs : List (List Int)
def mirC (n : Int) (xss : List (List Int)) : ColX := if coloursB n xss then ⟨n, xss.map List.reverse⟩ else ⟨0, []⟩
def mirCode (n : Int) (xss : List (List Int)) : Int := if coloursB n xss then 0 else 1
theorem cntII_le {xss : List (List Int)} {m : Nat} (h : ∀ r ∈ xss, r.length ≤ m) : cntII xss ≤ xss.length * m := by
  induction xss with
  | nil => simp [cntII]
  | cons x r ih =>
    have h1 := h x (by simp)
    have h2 := ih fun y hy => h y (by simp [hy])
    simp only [cntII, List.length_cons, Nat.succ_mul]
    omega
theorem mirC_size (n : Int) (xss : List (List Int)) : (mirC n xss).xs.length ≤ 8 ∧ cntII (mirC n xss).xs ≤ 64 := by
  unfold mirC
  split
  · rename_i hv
    have hv' : coloursB n xss = true := hv
    unfold coloursB at hv'
    simp only [Bool.and_eq_true, List.all_eq_true] at hv'
    have h1 := inR_iff.1 hv'.1.1
    have h2 := inR_iff.1 hv'.1.2
    have h3 : ∀ r ∈ xss.map List.reverse, r.length ≤ 8 := by
      intro r hr
      obtain ⟨x, hx, rfl⟩ := List.mem_map.1 hr
      have := hv'.2 x hx
      unfold rowOfB at this
      simp only [Bool.and_eq_true, decide_eq_true_eq] at this
      rw [List.length_reverse]
      omega
    have h4 := cntII_le h3
    simp only [List.length_map] at h4
    refine ⟨by simp; omega, ?_⟩
    have : xss.length ≤ 8 := by omega
    have := Nat.mul_le_mul_right 8 this
    show cntII (xss.map List.reverse) ≤ 64
    omega
  · simp [cntII]
/-- Another slice, of another type, grows. -/
theorem OwnC.grownT {w w' : World} {lo hi : Nat} {e : TypeId} {sz : Nat} {A : Option Addr} {n c : Nat} {cs : List Value} {lo2 hi2 : Nat} {e2 : TypeId} {sz2 : Nat} {B : Option Addr} {n2 c2 : Nat} {cs2 : List Value}
    (h : OwnC w lo hi e sz A n c cs) (h2 : OwnC w lo2 hi2 e2 sz2 B n2 c2 cs2) (ht : e ≠ e2) (hg : w.grownBy w' (Value.slice B n2 c2).ownBlock) : OwnC w' lo hi e sz A n c cs :=
  h.keepT fun k cur _ _ hk => hg.block k (Array.getElem?_eq_some_iff.1 hk).1 fun e' => by
    rcases h2.form with ⟨rfl, _⟩ | ⟨q, cur, rfl, _, _, hh, _⟩
    · simp [Value.ownBlock] at e'
    · simp [Value.ownBlock] at e'
      subst e'
      rw [hk] at hh
      injection hh with hh
      injection hh with _ hh
      exact ht hh
theorem CellsII.grownT {w w' : World} {lo hi : Nat} {cs : List Value} {xss : List (List Int)} {lo2 hi2 : Nat} {e2 : TypeId} {sz2 : Nat} {B : Option Addr} {n2 c2 : Nat} {cs2 : List Value}
    (h : CellsII w lo hi cs xss) (h2 : OwnC w lo2 hi2 e2 sz2 B n2 c2 cs2) (ht : (2 : TypeId) ≠ e2) (hg : w.grownBy w' (Value.slice B n2 c2).ownBlock) : CellsII w' lo hi cs xss :=
  ⟨h.1, fun k xs hx => by obtain ⟨A', c', h1, h3⟩ := h.2.1 k xs hx; exact ⟨A', c', h1, h3.grownT h2 ht hg⟩, h.2.2⟩
theorem CellsII.farT {w : World} {lo hi : Nat} {cs : List Value} {xss : List (List Int)} {g : Nat} {t : TypeId} {bs : Array Value} (h : CellsII w lo hi cs xss) (hb : Blk w g t bs) (ht : t ≠ 2) (j : Nat) (u : Value) : CellsII (w.setCell ⟨g, j, none⟩ u) lo hi cs xss :=
  ⟨h.1, fun k xs hx => by obtain ⟨A', c', h1, h3⟩ := h.2.1 k xs hx; exact ⟨A', c', h1, h3.farT hb ht j u⟩, h.2.2⟩
theorem Blk.set20 {w : World} {g : Nat} {t : TypeId} {a b : Value} (h : Blk w g t #[a, b]) (u : Value) : Blk (w.setCell ⟨g, 0, none⟩ u) g t #[u, b] := by
  unfold Blk at h ⊢
  simp [World.setCell, Array.getElem?_modify, h]
theorem Blk.set21 {w : World} {g : Nat} {t : TypeId} {a b : Value} (h : Blk w g t #[a, b]) (u : Value) : Blk (w.setCell ⟨g, 1, none⟩ u) g t #[a, u] := by
  unfold Blk at h ⊢
  simp [World.setCell, Array.getElem?_modify, h]


end Go.Proofs.Ytfgbhhkmdeljoaa
