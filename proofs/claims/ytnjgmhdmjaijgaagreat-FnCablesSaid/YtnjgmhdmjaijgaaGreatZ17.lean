/- Steps of the proof, joined from several texts: ZN YC ZO QB. -/
import Derived.Test.YtnjgmhdmjaijgaaGreatZ15
import Derived.Test.YtnjgmhdmjaijgaaGreatZ9
import Derived.Test.YtnjgmhdmjaijgaaGreatZ16
import Derived.Test.YtnjgmhdmjaijgaaGreatZ12
import Derived.Test.YtnjgmhdmjaijgaaGreatZ14
import Derived.Test.YtnjgmhdmjaijgaaGreatZ11
import Derived.Test.YtnjgmhdmjaijgaaGreatZ7

/- Permutations, plain: exchanges in another order; the letters of a permutation sort it; the permutation of a braid. -/
namespace Go.Proofs.YtnjgmhdmjaijgaaGreat
open Go.RowKit

/-- The exchanges of some letters, one after the other. -/
def swW (xs L : List Int) : List Int := xs.foldl (fun L x => swapL (x.natAbs - 1) L) L
theorem swW_cons (x : Int) (xs L : List Int) : swW (x :: xs) L = swW xs (swapL (x.natAbs - 1) L) := rfl
theorem swW_append (xs ys L : List Int) : swW (xs ++ ys) L = swW ys (swW xs L) := by simp [swW]
theorem swapL_length (k : Nat) (L : List Int) : (swapL k L).length = L.length := by simp [swapL]
theorem swW_length (xs L : List Int) : (swW xs L).length = L.length := by
  induction xs generalizing L with
  | nil => rfl
  | cons x xs ih => rw [swW_cons, ih, swapL_length]
theorem swapL_get {k : Nat} {L : List Int} (h : k + 1 < L.length) (i : Nat) : (swapL k L)[i]? = if i = k then L[k + 1]? else if i = k + 1 then L[k]? else L[i]? := by
  have e1 : L[k]? = some (L.getD k 0) := by rw [List.getD_eq_getElem?_getD, List.getElem?_eq_getElem (by omega)]; rfl
  have e2 : L[k + 1]? = some (L.getD (k + 1) 0) := by rw [List.getD_eq_getElem?_getD, List.getElem?_eq_getElem h]; rfl
  unfold swapL
  by_cases h1 : i = k
  · subst h1
    rw [if_pos rfl, List.getElem?_set_ne (by omega), List.getElem?_set_self (by omega), e2]
  · rw [if_neg h1]
    by_cases h2 : i = k + 1
    · subst h2
      rw [if_pos rfl, List.getElem?_set_self (by rw [List.length_set]; omega), e1]
    · rw [if_neg h2, List.getElem?_set_ne (by omega), List.getElem?_set_ne (by omega)]
theorem swapL_map {k : Nat} {M : List Int} (f : Int → Int) (h : k + 1 < M.length) : swapL k (M.map f) = (swapL k M).map f := by
  apply List.ext_getElem?
  intro i
  rw [swapL_get (by simpa using h)]
  simp only [List.getElem?_map]
  rw [swapL_get h]
  by_cases h1 : i = k
  · rw [if_pos h1, if_pos h1]
  · rw [if_neg h1, if_neg h1]
    by_cases h2 : i = k + 1
    · rw [if_pos h2, if_pos h2]
    · rw [if_neg h2, if_neg h2]
theorem swW_map {xs : List Int} {M : List Int} (f : Int → Int) (h : Letters M.length xs) : swW xs (M.map f) = (swW xs M).map f := by
  induction xs generalizing M with
  | nil => rfl
  | cons x xs ih =>
    have hx := h x (by simp)
    rw [swW_cons, swW_cons, swapL_map f (by omega), ih fun y hy => by rw [swapL_length]; exact h y (by simp [hy])]
theorem swW_apart {n : Nat} {g : List Int} (hA : Apart2 g) (hL : Letters n g) {L : List Int} (hn : L.length = n) (i : Nat) : (swW g L)[i]? = if ∃ y ∈ g, y.natAbs = i + 1 then L[i + 1]? else if ∃ y ∈ g, y.natAbs = i then L[i - 1]? else L[i]? := by
  induction g generalizing L with
  | nil => simp [swW]
  | cons x g ih =>
    have hx := hL x (by simp)
    unfold Apart2 at hA
    rw [List.pairwise_cons] at hA
    rw [swW_cons, ih hA.2 (fun y hy => hL y (by simp [hy])) (by rw [swapL_length]; exact hn)]
    have hk : x.natAbs - 1 + 1 < L.length := by omega
    by_cases h1 : ∃ y ∈ g, y.natAbs = i + 1
    · obtain ⟨y, hy, e⟩ := h1
      have ha := hA.1 y hy
      rw [if_pos ⟨y, hy, e⟩, swapL_get hk, if_neg (by omega), if_neg (by omega), if_pos ⟨y, by simp [hy], e⟩]
    · rw [if_neg h1]
      by_cases h2 : ∃ y ∈ g, y.natAbs = i
      · obtain ⟨y, hy, e⟩ := h2
        have ha := hA.1 y hy
        rw [if_pos ⟨y, hy, e⟩, swapL_get hk, if_neg (by omega), if_neg (by omega), if_neg (fun ⟨z, hz, e2⟩ => by
          rcases List.mem_cons.1 hz with ez | hz
          · rw [ez] at e2; omega
          · exact h1 ⟨z, hz, e2⟩), if_pos ⟨y, by simp [hy], e⟩]
      · rw [if_neg h2, swapL_get hk]
        by_cases h3 : x.natAbs = i + 1
        · rw [if_pos (show i = x.natAbs - 1 by omega), if_pos ⟨x, by simp, h3⟩]
          congr 1
          omega
        · rw [if_neg (show ¬ i = x.natAbs - 1 by omega)]
          have hno : ¬ ∃ y ∈ x :: g, y.natAbs = i + 1 := fun ⟨z, hz, e2⟩ => by
            rcases List.mem_cons.1 hz with ez | hz
            · rw [ez] at e2; exact h3 e2
            · exact h1 ⟨z, hz, e2⟩
          rw [if_neg hno]
          by_cases h4 : x.natAbs = i
          · rw [if_pos (show i = x.natAbs - 1 + 1 by omega), if_pos ⟨x, by simp, h4⟩]
            congr 1
            omega
          · rw [if_neg (show ¬ i = x.natAbs - 1 + 1 by omega)]
            have hno2 : ¬ ∃ y ∈ x :: g, y.natAbs = i := fun ⟨z, hz, e2⟩ => by
              rcases List.mem_cons.1 hz with ez | hz
              · rw [ez] at e2; exact h4 e2
              · exact h2 ⟨z, hz, e2⟩
            rw [if_neg hno2]
theorem swW_same {n : Nat} {g g' : List Int} (hA : Apart2 g) (hL : Letters n g) (hA' : Apart2 g') (h : ∀ y, y ∈ g' ↔ y ∈ g) {L : List Int} (hn : L.length = n) : swW g' L = swW g L := by
  have hL' : Letters n g' := fun y hy => hL y ((h y).1 hy)
  apply List.ext_getElem?
  intro i
  rw [swW_apart hA hL hn, swW_apart hA' hL' hn]
  simp only [h]
theorem swW_groups {n : Nat} {gs : List (List Int)} (hA : ∀ g ∈ gs, Apart2 g) (hL : ∀ g ∈ gs, Letters n g) {L : List Int} (hn : L.length = n) : swW (gs.flatMap fun g => rowL n g 0) L = swW gs.flatten L := by
  induction gs generalizing L with
  | nil => rfl
  | cons g gs ih =>
    obtain ⟨r1, r2, _⟩ := rowL_whole (hL g (by simp)) (hA g (by simp))
    rw [List.flatMap_cons, swW_append, List.flatten_cons, swW_append, swW_same (hA g (by simp)) (hL g (by simp)) r2 r1 hn]
    exact ih (fun g' h => hA g' (by simp [h])) (fun g' h => hL g' (by simp [h])) (by rw [swW_length]; exact hn)
/-- Sorted without repetition, and within bounds: the identity. -/
theorem sorted_id {q : List Int} {n : Nat} (hl : q.length = n) (hnd : q.Nodup) (hr : ∀ x ∈ q, 0 ≤ x ∧ x < (n : Int)) (hs : firstDes q = none) : q = iotaI n := by
  have step : ∀ (j : Nat) (a b : Int), q[j]? = some a → q[j + 1]? = some b → a < b := fun j a b ha hb => by
    have h1 := firstDes_before (fun k h => by rw [hs] at h; cases h) ha hb
    have h2 : a ≠ b := by
      rintro rfl
      have hj := (List.getElem?_eq_some_iff.1 hb).1
      have := (List.getElem?_inj (by omega) hnd (i := j) (j := j + 1)).1 (by rw [ha, hb])
      omega
    omega
  have lo : ∀ (j : Nat) (a : Int), q[j]? = some a → (j : Int) ≤ a := by
    intro j
    induction j with
    | zero => intro a ha; have := hr a (List.mem_of_getElem? ha); omega
    | succ j ih =>
      intro b hb
      have hj := (List.getElem?_eq_some_iff.1 hb).1
      have ha := List.getElem?_eq_getElem (l := q) (i := j) (by omega)
      have h1 := ih _ ha
      have h2 := step j _ b ha hb
      omega
  have hi : ∀ (t j : Nat) (a : Int), j + t + 1 = n → q[j]? = some a → a ≤ (j : Int) := by
    intro t
    induction t with
    | zero => intro j a hj ha; have := hr a (List.mem_of_getElem? ha); omega
    | succ t ih =>
      intro j a hj ha
      have hb := List.getElem?_eq_getElem (l := q) (i := j + 1) (by omega)
      have h1 := ih (j + 1) _ (by omega) hb
      have h2 := step j a _ ha hb
      omega
  apply List.ext_getElem?
  intro i
  unfold iotaI
  by_cases h : i < n
  · have ha := List.getElem?_eq_getElem (l := q) (i := i) (by omega)
    have h1 := lo i _ ha
    have h2 := hi (n - i - 1) i _ (by omega) ha
    rw [ha, List.getElem?_map, List.getElem?_range h]
    simp only [Option.map_some, Option.some.injEq]
    omega
  · rw [List.getElem?_eq_none (by omega), List.getElem?_eq_none (by simp; omega)]
theorem swapL_perm {k : Nat} {xs : List Int} {a b : Int} (ha : xs[k]? = some a) (hb : xs[k + 1]? = some b) : (swapL k xs).Perm xs := by
  rw [swapL_at ha hb]
  obtain ⟨pre, post, rfl, rfl, _⟩ := decomp ha hb
  rw [swapL_eq]
  exact List.Perm.append_left pre (List.Perm.swap a b post)
theorem invs_sorted {xs : List Int} (h : firstDes xs = none) : invs xs = 0 := by
  induction xs with
  | nil => rfl
  | cons a xs ih =>
    cases xs with
    | nil => rfl
    | cons b xs =>
      rw [firstDes] at h
      split at h
      · cases h
      · rename_i hab
        have h1 : firstDes (b :: xs) = none := by
          cases hf : firstDes (b :: xs) with
          | none => rfl
          | some k => rw [hf] at h; cases h
        have h2 := ih h1
        rw [invs, h2]
        have h3 : xs.countP (fun y => decide (y < b)) = 0 := by
          rw [invs] at h2
          omega
        rw [List.countP_eq_zero] at h3
        have h4 : (b :: xs).countP (fun y => decide (y < a)) = 0 := by
          rw [List.countP_eq_zero]
          intro y hy
          rcases List.mem_cons.1 hy with rfl | hy
          · simpa using hab
          · have := h3 y hy
            simp at this ⊢
            omega
        omega
/-- The letters sort the permutation; there is one for each inversion. -/
theorem permWord_sorts (m : Nat) : ∀ xs : List Int, invs xs = m → (permWord xs).length = m ∧ (swW ((permWord xs).map (· + 1)) xs).Perm xs ∧ firstDes (swW ((permWord xs).map (· + 1)) xs) = none := by
  induction m with
  | zero =>
    intro xs h
    cases hf : firstDes xs with
    | none =>
      rw [permWord_none hf]
      exact ⟨rfl, List.Perm.refl _, hf⟩
    | some k => rw [invs_step hf] at h; omega
  | succ m ih =>
    intro xs h
    cases hf : firstDes xs with
    | none => rw [invs_sorted hf] at h; omega
    | some k =>
      obtain ⟨a, b, ha, hb, _⟩ := firstDes_some hf
      obtain ⟨i1, i2, i3⟩ := ih (swapL k xs) (by rw [invs_step hf] at h; omega)
      have e : ((k : Int) + 1).natAbs - 1 = k := by omega
      rw [permWord_some hf, List.map_cons, swW_cons, e]
      exact ⟨by rw [List.length_cons, i1], i2.trans (swapL_perm ha hb), i3⟩
theorem permGo_of {n : Int} : ∀ {done xs : List Int}, permGo n done xs = true → done.Nodup → (done ++ xs).Nodup ∧ ∀ x ∈ xs, 0 ≤ x ∧ x < n
  | done, [], _, hd => ⟨by simpa using hd, fun x hx => by simp at hx⟩
  | done, x :: xs, h, hd => by
    rw [permGo] at h
    simp only [Bool.and_eq_true, Bool.not_eq_true', decide_eq_false_iff_not] at h
    obtain ⟨⟨h1, h2⟩, h3⟩ := h
    have h4 := inR_iff.1 h1
    have hd2 : (done ++ [x]).Nodup := by
      rw [List.nodup_append]
      refine ⟨hd, by simp, fun a ha b hb => ?_⟩
      rw [List.mem_singleton.1 hb]
      rintro rfl
      exact h2 ha
    obtain ⟨i1, i2⟩ := permGo_of h3 hd2
    refine ⟨by simpa using i1, fun y hy => ?_⟩
    rcases List.mem_cons.1 hy with rfl | hy
    · omega
    · exact i2 y hy
theorem permB_of {p : List Int} (h : permB p = true) : p.Nodup ∧ (∀ x ∈ p, 0 ≤ x ∧ x < (p.length : Int)) ∧ p.length ≤ 12 := by
  have h12 := permB_len h
  unfold permB at h
  simp only [Bool.and_eq_true] at h
  obtain ⟨h1, h2⟩ := permGo_of h.2 (by simp)
  exact ⟨by simpa using h1, h2, h12⟩
theorem perm_sorted {p : List Int} (h : permB p = true) : swW (permLetters p) p = iotaI p.length ∧ (permLetters p).length = invs p := by
  obtain ⟨h1, h2, _⟩ := permB_of h
  obtain ⟨e1, e2, e3⟩ := permWord_sorts (invs p) p rfl
  refine ⟨?_, by rw [permLetters_length, e1]⟩
  unfold permLetters
  refine sorted_id (by rw [swW_length]) (e2.nodup_iff.2 h1) (fun x hx => h2 x (e2.mem_iff.1 hx)) e3
/-- What is written at the places of a list: its inverse. -/
def invTo (at_ : List Int) (n : Nat) : Nat → List Int
  | 0 => List.replicate n 0
  | k + 1 => (invTo at_ n k).set (at_.getD k 0).toNat (k : Int)
theorem invTo_length (at_ : List Int) (n k : Nat) : (invTo at_ n k).length = n := by
  induction k with
  | zero => simp [invTo]
  | succ k ih => rw [invTo, List.length_set, ih]
theorem invTo_at {at_ : List Int} {n : Nat} (hl : at_.length = n) (hnd : at_.Nodup) (hr : ∀ x ∈ at_, 0 ≤ x ∧ x < (n : Int)) (k : Nat) : k ≤ n → ∀ (i : Nat) (a : Int), i < k → at_[i]? = some a → (invTo at_ n k)[a.toNat]? = some (i : Int) := by
  induction k with
  | zero => intro _ i a hi; omega
  | succ k ih =>
    intro hk i a hi ha
    have hx := List.getElem?_eq_getElem (l := at_) (i := k) (by omega)
    rw [invTo, getD_of hx]
    have hxr := hr _ (List.mem_of_getElem? hx)
    have har := hr _ (List.mem_of_getElem? ha)
    by_cases e : i = k
    · subst e
      rw [hx] at ha
      injection ha with ha
      rw [ha, List.getElem?_set_self (by rw [invTo_length]; omega)]
    · rw [List.getElem?_set_ne ?_, ih (by omega) i a (by omega) ha]
      intro e2
      have e3 : at_[k]'(by omega) = a := by omega
      have := (List.getElem?_inj (by omega) hnd (i := i) (j := k)).1 (by rw [ha, hx, e3])
      omega
/-- The permutation of a braid's letters. -/
def permOf (n : Nat) (xs : List Int) : List Int := invTo (swW xs (iotaI n)) n n
theorem iotaN_length (n : Nat) : (iotaI n).length = n := by simp [iotaI]
theorem swW_perm {xs L : List Int} (h : Letters L.length xs) : (swW xs L).Perm L := by
  induction xs generalizing L with
  | nil => exact List.Perm.refl _
  | cons x xs ih =>
    have hx := h x (by simp)
    rw [swW_cons]
    refine (ih fun y hy => by rw [swapL_length]; exact h y (by simp [hy])).trans ?_
    exact swapL_perm (List.getElem?_eq_getElem (by omega)) (List.getElem?_eq_getElem (by omega))
theorem iotaN_mem {n : Nat} {x : Int} : x ∈ iotaI n ↔ 0 ≤ x ∧ x < (n : Int) := by
  unfold iotaI
  rw [List.mem_map]
  constructor
  · rintro ⟨i, hi, rfl⟩
    have := List.mem_range.1 hi
    omega
  · rintro ⟨h1, h2⟩
    exact ⟨x.toNat, List.mem_range.2 (by omega), by omega⟩
theorem iotaN_at {n i : Nat} (h : i < n) : (iotaI n)[i]? = some (i : Int) := by
  unfold iotaI
  rw [List.getElem?_map, List.getElem?_range h]
  rfl
theorem iotaN_nodup (n : Nat) : (iotaI n).Nodup := by
  unfold iotaI List.Nodup
  rw [List.pairwise_map]
  exact (List.nodup_range (n := n)).imp fun h e => h (by omega)
theorem permOf_eq {p xs : List Int} {n : Nat} (hn : p.length = n) (hL : Letters n xs) (hp : p.Nodup) (hr : ∀ x ∈ p, 0 ≤ x ∧ x < (n : Int)) (hs : swW xs p = iotaI n) : permOf n xs = p := by
  have e1 : p = (iotaI n).map fun i => p.getD i.toNat 0 := by
    apply List.ext_getElem?
    intro i
    rw [List.getElem?_map]
    by_cases h : i < n
    · rw [iotaN_at h, List.getElem?_eq_getElem (by omega)]
      simp only [Option.map_some, Int.toNat_natCast]
      rw [getD_of (List.getElem?_eq_getElem (by omega))]
    · rw [List.getElem?_eq_none (by omega), List.getElem?_eq_none (by rw [iotaN_length]; omega)]
      rfl
  have hL' : Letters (iotaI n).length xs := by rw [iotaN_length]; exact hL
  have hperm := swW_perm hL'
  obtain ⟨at_, hat⟩ : ∃ at_, at_ = swW xs (iotaI n) := ⟨_, rfl⟩
  rw [← hat] at hperm
  have hal : at_.length = n := by rw [hperm.length_eq, iotaN_length]
  have hand : at_.Nodup := hperm.nodup_iff.2 (iotaN_nodup n)
  have har : ∀ x ∈ at_, 0 ≤ x ∧ x < (n : Int) := fun x hx => iotaN_mem.1 (hperm.mem_iff.1 hx)
  have hmap : at_.map (fun i => p.getD i.toNat 0) = iotaI n := by
    rw [hat, ← swW_map _ hL', ← e1, hs]
  unfold permOf
  rw [← hat]
  apply List.ext_getElem?
  intro v
  by_cases hv : v < n
  · have hpv := List.getElem?_eq_getElem (l := p) (i := v) (by omega)
    have hu := hr _ (List.mem_of_getElem? hpv)
    obtain ⟨u, hu2⟩ := Int.eq_ofNat_of_zero_le hu.1
    rw [hu2] at hu hpv
    have hau := List.getElem?_eq_getElem (l := at_) (i := u) (by omega)
    have hva := har _ (List.mem_of_getElem? hau)
    have h1 := congrArg (fun l => l[u]?) hmap
    simp only [List.getElem?_map] at h1
    rw [hau, iotaN_at (by omega)] at h1
    simp only [Option.map_some, Option.some.injEq] at h1
    have h2 : p[(at_[u]'(by omega)).toNat]? = some (u : Int) := by
      rw [List.getElem?_eq_getElem (by omega)]
      rw [getD_of (List.getElem?_eq_getElem (by omega))] at h1
      rw [h1]
    have h3 : (at_[u]'(by omega)).toNat = v := (List.getElem?_inj (by omega) hp).1 (by rw [h2, hpv])
    have h4 := invTo_at hal hand har n (Nat.le_refl _) u _ (by omega) hau
    rw [h3] at h4
    rw [h4, hpv]
  · rw [List.getElem?_eq_none (by rw [invTo_length]; omega), List.getElem?_eq_none (by omega)]
theorem letters_of_braid {n : Nat} {xs : List Int} (h : braidB n xs = true) : Letters n xs := by
  obtain ⟨_, _, _, h4⟩ := braidB_of h
  intro x hx
  have := h4 x hx
  omega
/-- The cable of a permutation. -/
theorem cable_perm {p : List Int} {car : Int} (h : copCode p car = 0) :
    ∃ W : List Int, copX p car = ⟨p.length, rowsFrom p.length car (groupsOf (permLetters p)) (-1)⟩ ∧ cbCode p.length (copX p car).xs = 0 ∧ cbX p.length (copX p car).xs = ⟨p.length, W⟩ ∧ permB p = true ∧ permOf p.length W = p ∧ (∀ y ∈ W, ¬ y < 0) ∧ W.length = invs p ∧ braidB p.length W = true := by
  have hp : permB p = true := by
    cases hp : permB p
    · simp [copCode, hp] at h
    · rfl
  unfold copCode at h
  rw [if_pos hp] at h
  have hr : (inR p.length 1 8 && carrierB car) = true := by
    cases hr : inR p.length 1 8 && carrierB car
    · rw [cowCode, if_neg (by rw [hr]; decide)] at h; simp at h
    · rfl
  unfold cowCode at h
  rw [if_pos hr] at h
  have hk : (pack (permLetters p)).length ≤ 8 ∧ (permLetters p).length ≤ 40 := by
    apply Classical.byContradiction
    intro hk
    rw [if_neg hk] at h
    simp at h
  rw [Bool.and_eq_true] at hr
  have hn := inR_iff.1 hr.1
  obtain ⟨hb, _⟩ := perm_braid (p := p) (by omega)
  have hL := letters_of_braid hb
  obtain ⟨c1, c2, c3, c4, c5⟩ := cable_of hL hk.2 hk.1 (by omega) hr.2
  have hX : copX p car = ⟨p.length, rowsFrom p.length car (groupsOf (permLetters p)) (-1)⟩ := by
    have e : cowCode p.length (permLetters p) car = 0 := by
      unfold cowCode
      rw [hr.1, hr.2, if_pos (show (true && true) = true from rfl), if_pos hk]
    rw [copX, if_pos hp, cowX, if_pos e]
    rfl
  obtain ⟨h1, h2, _⟩ := permB_of hp
  obtain ⟨s1, s2⟩ := perm_sorted hp
  obtain ⟨g1, g2, _⟩ := groups_facts (permLetters p)
  have gL := groups_letters hL
  obtain ⟨W, hW⟩ : ∃ W, W = (groupsOf (permLetters p)).flatMap fun g => rowL p.length g 0 := ⟨_, rfl⟩
  rw [← hW] at c4 c5
  have hmem : ∀ y ∈ W, y ∈ permLetters p := by
    intro y hy
    rw [hW, List.mem_flatMap] at hy
    obtain ⟨g, hg, hy⟩ := hy
    rw [← g2]
    exact List.mem_flatten.2 ⟨g, hg, ((rowL_whole (gL g hg) (g1 g hg)).1 y).1 hy⟩
  have hLW : Letters p.length W := fun y hy => hL y (hmem y hy)
  refine ⟨W, hX, by rw [hX]; exact c3, by rw [hX]; exact c4, hp, ?_, fun y hy => ?_, by rw [c5, s2], ?_⟩
  · refine permOf_eq rfl hLW h1 h2 ?_
    rw [hW, swW_groups g1 gL rfl, g2]
    exact s1
  · have := hmem y hy
    rw [permLetters, List.mem_map] at this
    obtain ⟨x, hx, rfl⟩ := this
    have := permWord_mem p x hx
    omega
  · unfold braidB lettersB
    simp only [Bool.and_eq_true, decide_eq_true_eq, List.all_eq_true]
    refine ⟨⟨inR_iff.2 (by omega), by omega⟩, fun y hy => ?_⟩
    have := hLW y hy
    unfold letterB
    rw [Bool.and_eq_true, decide_eq_true_eq, inR_iff]
    omega
theorem invs_snoc (xs : List Int) (y : Int) : invs (xs ++ [y]) = invs xs + xs.countP fun x => decide (y < x) := by
  induction xs with
  | nil => rfl
  | cons x xs ih =>
    rw [List.cons_append, invs, invs, ih, List.countP_append, List.countP_cons, List.countP_cons]
    simp
    omega

end Go.Proofs.YtnjgmhdmjaijgaaGreat

/- Doubled braids: the given side's word. -/
namespace Go.Proofs.YtnjgmhdmjaijgaaGreat
open Go Go.RowKit

set_option maxHeartbeats 4000000 in
set_option maxRecDepth 10000 in
theorem spec_l03Double (word sizes : List Int) (A B : Option Addr) (c d n : Nat) (S : Int) (w : World) (h : Ints w A word) (hl : word.length ≤ 40) (h' : Ints w B sizes) (hn : NowB sizes n S) (hn8 : 1 ≤ n ∧ n ≤ 8) (hS : S ≤ 32) (hw : ∀ x ∈ word, 1 ≤ x.natAbs ∧ x.natAbs < n) :
    Calls Tryz.prog 113 #[.slice A word.length c, .slice B sizes.length d] w fun e w' => ∃ A' c', e = .returned (.slice A' (dblFrom word sizes).length c') ∧ OwnI w' w.heap.size w'.heap.size A' c' (dblFrom word sizes) ∧ Below w.heap.size w w' := by
  obtain ⟨i0, hi0, hz0, hz1, hz2⟩ := info_parts info_int64
  obtain rfl := hn.len
  obtain ⟨hn1, hn8⟩ := hn8
  have HW := Lib.hid hw; clear hw
  have HNB := Lib.hid hn; clear hn
  go_enter Tryz.func113, Tryz.ntmps113
  go_wp2_with (fail)
  refine (spec_l00Own B d sizes w h' (by omega)).mono ?_; rintro e w5 ⟨A5, c5, rfl, o5, b5⟩
  obtain ⟨g5, rfl⟩ := OwnC.head o5 (by omega)
  have hz5 := b5.size
  have o6 := (OwnC.lit (w := w5) (lo := w5.heap.size) (n := 0) 2 1 #[] (Nat.le_refl _) (Nat.zero_le _) rfl).mono (Nat.le_refl _) (show w5.heap.size + 1 ≤ (w5.alloc (.cells #[] 2)).heap.size by simp)
  have hb6 : Below w.heap.size w (w5.alloc (.cells #[] 2)) := b5.alloc (by omega) _
  have o5a := o5.alloc (.cells #[] 2)
  have O6 := Lib.hid o6; clear o6
  go_wp2_with (fail)
  go_loopw [6, 7] (fun ov iv wr => ∃ (i : Nat) (A' : Option Addr) (c' : Nat) (out now : List Int), i ≤ word.length ∧ iv = .int .i64 i ∧ ov = .slice A' out.length c' ∧ OwnI wr w5.heap.size wr.heap.size A' c' out ∧ OwnI wr w.heap.size w5.heap.size (some ⟨g5, 0, none⟩) c5 now ∧ NowB now sizes.length S ∧ Below w.heap.size w wr ∧ w5.heap.size ≤ wr.heap.size ∧ Hid (dblFrom word sizes = out ++ dblFrom (word.drop i) now) ∧ out.length ≤ 16 * i) (fun _ iv _ => word.length - (intOf iv).toNat)
  case atStart => exact ⟨0, some ⟨w5.heap.size, 0, none⟩, 0, [], sizes, Nat.zero_le _, rfl, rfl, O6.out, o5a, HNB.out, hb6, by simp, Lib.hid rfl, by simp⟩
  case round =>
    clear O6 hb6 o5a
    obtain ⟨i, A', c', out, now, hi, rfl, rfl, ho, hnow, hnb, hb, hz, HD, hol⟩ := hrel
    by_cases hil : i < word.length
    · obtain ⟨b, off, x, rfl, hc, hx⟩ := (h.below hb) i hil
      obtain ⟨hx1, hx2⟩ := HW.out x (List.mem_of_getElem? hx)
      obtain ⟨K, hK⟩ : ∃ K, x.natAbs = K + 1 := ⟨x.natAbs - 1, by omega⟩
      have hab : absI x = (K : Int) + 1 := by unfold absI; split <;> omega
      have HAB := Lib.hid hab; clear hab
      obtain ⟨a, ha, a1, a4⟩ := now_at hnb (k := K) (by omega)
      obtain ⟨bb, hbb, b1, b4⟩ := now_at hnb (k := K + 1) (by omega)
      obtain ⟨aN, rfl⟩ := Int.eq_ofNat_of_zero_le (show (0 : Int) ≤ a by omega)
      obtain ⟨bN, rfl⟩ := Int.eq_ofNat_of_zero_le (show (0 : Int) ≤ bb by omega)
      obtain ⟨hn2, hs0, hs1⟩ := hnb.swap ha hbb
      have HD2 : Hid (dblFrom word sizes = (out ++ swTo (sumI (now.take K)) (sgnI x) aN bN) ++ dblFrom (word.drop (i + 1)) (swapL K now)) := Lib.hid (by
        rw [HD.out, drop_cons hx, dblFrom, hK, Nat.add_sub_cancel, getD_of ha, getD_of hbb, Int.toNat_natCast, Int.toNat_natCast, List.append_assoc])
      have HSW := Lib.hid (swapL_at ha hbb)
      have hxs : -1000 ≤ x ∧ x ≤ 1000 := by omega
      have HNL := Lib.hid hnb.len
      have j1 : (0 : Int) ≤ (i : Int) := by omega
      have j2 : (i : Int) < (word.length : Int) := by omega
      have HXS := Lib.hid hxs; clear hxs hx HD
      go_wp2_with (go_at_call 129; refine (spec_l03Abs _ _ HXS.out).mono ?_; rintro e _ ⟨rfl, rfl⟩; rw [HAB.out])
      go_loop [9, 10] (fun pv jv => ∃ j : Nat, j ≤ K ∧ jv = .int .i64 j ∧ pv = .int .i64 (sumI (now.take j)) ∧ Hid (0 ≤ sumI (now.take j))) (fun _ jv => K - (intOf jv).toNat)
      case atStart => exact ⟨0, Nat.zero_le _, rfl, rfl, Lib.hid (by simp [sumI])⟩
      case round =>
        obtain ⟨j, hj, rfl, rfl, H0⟩ := hrel
        by_cases hjk : j < K
        · obtain ⟨y, hy, y1, y4⟩ := now_at hnb (k := j) (by omega)
          obtain ⟨cy, fy, _, _⟩ := own_at hnow hy
          have HSN := Lib.hid (sumI_snoc hy)
          have htk := hnb.take (j + 1)
          obtain ⟨t0, t1⟩ := htk
          rw [HSN.out] at t0 t1
          have h0 := H0.out
          have hd : decide ((j : Int) < (K : Int)) = true := decide_eq_true (by omega)
          clear hy
          have j3 : (0 : Int) ≤ (j : Int) := by omega
          have j4 : (j : Int) < (sizes.length : Int) := by omega
          generalize sumI (now.take j) = pj at HSN t0 t1 h0 H0 ⊢
          go_wp2_with (fail)
          refine ⟨⟨j + 1, by omega, by go_num, by rw [HSN.out], Lib.hid (by rw [HSN.out]; exact t0)⟩, by simp [intOf]; omega⟩
        · obtain rfl : j = K := by omega
          have h0 := H0.out
          have hpS : sumI (now.take j) ≤ 1000 := by have := (hnb.take j).2; omega
          obtain ⟨ca, fa, ga, gb⟩ := own_at hnow ha
          obtain ⟨cb, fb, _, _⟩ := own_at hnow hbb
          generalize sumI (now.take j) = place at hpS h0 HD2 hs1 H0 ⊢
          have hd : decide ((j : Int) < (j : Int)) = false := decide_eq_false (by omega)
          have j3 : (0 : Int) ≤ (j : Int) := by omega
          have j4 : (j : Int) < (sizes.length : Int) := by omega
          have j5 : (j : Int) + 1 < (sizes.length : Int) := by omega
          have j6 : IntKind.i64.wrap (j : Int) = (j : Int) := IntWalk.i64_in _ (by omega)
          have j7 : (0 : Int) ≤ (j : Int) + 1 := by omega
          have j8 : ((j : Int) + 1).toNat = j + 1 := by omega
          by_cases hneg : x < 0
          case' pos =>
            have hng : decide (x < 0) = true := decide_eq_true hneg
            have HSG : Hid (sgnI x = -1) := Lib.hid (by rw [sgnI, if_pos hneg])
          case' neg =>
            have hng : decide (x < 0) = false := decide_eq_false hneg
            have HSG : Hid (sgnI x = 1) := Lib.hid (by rw [sgnI, if_neg hneg])
          all_goals
            rw [HSG.out] at HD2
            clear hneg HSG
            go_wp2_with (fail)
            (refine wp_region_pops 2 (S := (fun W' => W'.cell? ⟨g5, j, none⟩ = some (.int .i64 (aN : Int)) ∧ W'.cell? ⟨g5, j + 1, none⟩ = some (.int .i64 (bN : Int)))) (pre := ?_) (T := ?_) (n := ?_) (by kernel_rfl) (by kernel_rfl) ?_ ?_ ?_ ?_ (fun hHeld => ?_); rotate_left 3; (focus (simp only [pops, List.pop_toArray, List.dropLast_cons_cons, List.dropLast_singleton]; rfl)); (focus (simp only [tailOf, List.pop_toArray, List.dropLast_cons_cons, List.dropLast_singleton, List.back?_toArray, List.getLast?_cons_cons, List.getLast?_singleton, Option.toList_some, List.nil_append, List.cons_append]; rfl)); (focus rfl); (focus (exact ⟨ca, cb⟩)))
            ((refine wpAnyH_take (i := 0) (v := ?_) rfl (by kernel_rfl) (by kernel_rfl) (by kernel_rfl) (fun _ _ _ h => h) (Or.inl ⟨by rfl, ?_⟩) (by assumption) ?_; rotate_left; (focus (intro W hSw; (try dsimp only at hSw); go_simp; try (with_reducible rfl)))); (try simp only [List.getElem_toArray, List.getElem_cons_zero, Act.put, List.setIfInBounds_toArray, List.set_cons_zero, List.set_cons_succ]); (refine wpAnyH_take (i := 1) (v := ?_) rfl (by kernel_rfl) (by kernel_rfl) (by kernel_rfl) (fun _ _ _ h => h) (Or.inl ⟨by rfl, ?_⟩) (by assumption) ?_; rotate_left; (focus (intro W hSw; (try dsimp only at hSw); go_simp; try (with_reducible rfl)))); (try simp only [List.getElem_toArray, List.getElem_cons_zero, List.getElem_cons_succ, Act.put, List.setIfInBounds_toArray, List.set_cons_zero, List.set_cons_succ]); (refine wpAnyH_take (i := 2) (v := ?_) rfl (by kernel_rfl) (by kernel_rfl) (by kernel_rfl) (fun _ _ _ h => h) (Or.inl ⟨by rfl, ?_⟩) (by assumption) ?_; rotate_left; (focus (intro W hSw; (try dsimp only at hSw); go_simp; try (with_reducible rfl)))); (try simp only [List.getElem_toArray, List.getElem_cons_zero, List.getElem_cons_succ, Act.put, List.setIfInBounds_toArray, List.set_cons_zero, List.set_cons_succ]); (refine wpAnyH_take (i := 3) (v := ?_) rfl (by kernel_rfl) (by kernel_rfl) (by kernel_rfl) (fun _ _ _ h => h) (Or.inl ⟨by rfl, ?_⟩) (by assumption) ?_; rotate_left; (focus (intro W hSw; (try dsimp only at hSw); go_simp; try (with_reducible rfl)))); (try simp only [List.getElem_toArray, List.getElem_cons_zero, List.getElem_cons_succ, Act.put, List.setIfInBounds_toArray, List.set_cons_zero, List.set_cons_succ]); (refine wpAnyH_take (i := 4) (v := ?_) rfl (by kernel_rfl) (by kernel_rfl) (by kernel_rfl) (fun _ _ _ h => h) (Or.inl ⟨by rfl, ?_⟩) (by assumption) ?_; rotate_left; (focus (intro W hSw; (try dsimp only at hSw); go_simp; try (with_reducible rfl)))); (try simp only [List.getElem_toArray, List.getElem_cons_zero, List.getElem_cons_succ, Act.put, List.setIfInBounds_toArray, List.set_cons_zero, List.set_cons_succ]); (refine wpAnyH_take (i := 5) (v := ?_) rfl (by kernel_rfl) (by kernel_rfl) (by kernel_rfl) (fun _ _ _ h => h) (Or.inl ⟨by rfl, ?_⟩) (by assumption) ?_; rotate_left; (focus (intro W hSw; (try dsimp only at hSw); go_simp; try (with_reducible rfl)))); (try simp only [List.getElem_toArray, List.getElem_cons_zero, List.getElem_cons_succ, Act.put, List.setIfInBounds_toArray, List.set_cons_zero, List.set_cons_succ]); (refine wpAnyH_take (i := 6) (v := ?_) rfl (by kernel_rfl) (by kernel_rfl) (by kernel_rfl) (fun _ _ _ h => h) (Or.inl ⟨by rfl, ?_⟩) (by assumption) ?_; rotate_left; (focus (intro W hSw; (try dsimp only at hSw); go_simp; try (with_reducible rfl)))); (try simp only [List.getElem_toArray, List.getElem_cons_zero, List.getElem_cons_succ, Act.put, List.setIfInBounds_toArray, List.set_cons_zero, List.set_cons_succ]); (refine wpAnyH_take (i := 7) (v := ?_) rfl (by kernel_rfl) (by kernel_rfl) (by kernel_rfl) (fun _ _ _ h => h) (Or.inl ⟨by rfl, ?_⟩) (by assumption) ?_; rotate_left; (focus (intro W hSw; (try dsimp only at hSw); go_simp; try (with_reducible rfl)))); (try simp only [List.getElem_toArray, List.getElem_cons_zero, List.getElem_cons_succ, Act.put, List.setIfInBounds_toArray, List.set_cons_zero, List.set_cons_succ]); (refine wpAnyH_take (i := 8) (v := ?_) rfl (by kernel_rfl) (by kernel_rfl) (by kernel_rfl) (fun _ _ _ h => h) (Or.inl ⟨by rfl, ?_⟩) (by assumption) ?_; rotate_left; (focus (intro W hSw; (try dsimp only at hSw); go_simp; try (with_reducible rfl)))); (try simp only [List.getElem_toArray, List.getElem_cons_zero, List.getElem_cons_succ, Act.put, List.setIfInBounds_toArray, List.set_cons_zero, List.set_cons_succ]); (refine wpAnyH_take (i := 9) (v := ?_) rfl (by kernel_rfl) (by kernel_rfl) (by kernel_rfl) (fun _ _ _ h => h) (Or.inl ⟨by rfl, ?_⟩) (by assumption) ?_; rotate_left; (focus (intro W hSw; (try dsimp only at hSw); go_simp; try (with_reducible rfl)))); (try simp only [List.getElem_toArray, List.getElem_cons_zero, List.getElem_cons_succ, Act.put, List.setIfInBounds_toArray, List.set_cons_zero, List.set_cons_succ]); (refine wpAnyH_take (i := 10) (v := ?_) rfl (by kernel_rfl) (by kernel_rfl) (by kernel_rfl) (fun _ _ _ h => h) (Or.inl ⟨by rfl, ?_⟩) (by assumption) ?_; rotate_left; (focus (intro W hSw; (try dsimp only at hSw); go_simp; try (with_reducible rfl)))); (try simp only [List.getElem_toArray, List.getElem_cons_zero, List.getElem_cons_succ, Act.put, List.setIfInBounds_toArray, List.set_cons_zero, List.set_cons_succ]); (refine wpAnyH_take (i := 11) (v := ?_) rfl (by kernel_rfl) (by kernel_rfl) (by kernel_rfl) (fun _ _ _ h => h) (Or.inl ⟨by rfl, ?_⟩) (by assumption) ?_; rotate_left; (focus (intro W hSw; (try dsimp only at hSw); go_simp; try (with_reducible rfl)))); (try simp only [List.getElem_toArray, List.getElem_cons_zero, List.getElem_cons_succ, Act.put, List.setIfInBounds_toArray, List.set_cons_zero, List.set_cons_succ]))
            (refine wpAnyH_ready (rs := [12]) (by kernel_rfl) (by simp) ?_; refine AllReadyH.cons rfl (fun K hK => ?_) AllReadyH.nil)
            go_simp
            refine (spec_l03Swap place aN bN _ _ (by first | exact .inl rfl | exact .inr rfl) ⟨h0, hpS⟩ (by omega) (by omega)).mono ?_; rintro e w7 ⟨A8, c8, rfl, o7', b7'⟩
            have b7 := undrew b7'
            have o7 : OwnI w7 wr.heap.size w7.heap.size A8 c8 (swTo place _ aN bN) := o7'
            have hz7 := b7.size
            refine hK.out _ _ ⟨(own_at (OwnC.below hnow b7 (by omega)) ha).1, (own_at (OwnC.below hnow b7 (by omega)) hbb).1⟩ (fun hHeld => ?_)
            clear hK K b7' o7'
            (try simp only [List.getElem_toArray, List.getElem_cons_zero, List.getElem_cons_succ, Act.put, List.setIfInBounds_toArray, List.set_cons_zero, List.set_cons_succ])
            (refine wpAnyH_done (by kernel_rfl) ?_ _; change wpList _ _ _ _ _ _)
            clear hHeld
            have hm := Nat.mul_le_mul (show aN ≤ 4 by omega) (show bN ≤ 4 by omega)
            generalize hms : swTo place _ aN bN = ms at o7 HD2 ⊢
            have hml : ms.length ≤ 16 := by rw [← hms, swTo_length]; exact hm
            clear hms hm
            have hnow7 := OwnC.below hnow b7 (by omega)
            have ho7 := OwnC.below ho b7 (Nat.le_refl _)
            go_wp2_with (at_builtin; refine wpList_appendC w7 rfl (.tmp 44) (.tmp 56) _ rfl 2 i0 _ 1 8 Tryz.underlying36 hi0 hz0 hz1 hz2 rfl (by decide) rfl ho7 (by omega) A8 ms.length c8 (ms.map (Value.int .i64)) rfl (by simp) o7.news (ints_one _) (by unfold maxLen; omega) (by omega) ?_; intro A9 c9 w8 ho8 hg8 hb8; have hnow8 := OwnC.below hnow7 hb8 (Nat.le_refl _); obtain ⟨ca8, fa8, _, _⟩ := own_at hnow8 ha; obtain ⟨cb8, fb8, _, _⟩ := own_at hnow8 hbb)
            have hz8 := hb8.size
            refine ⟨⟨i + 1, A9, c9, out ++ ms, swapL j now, by omega, by go_num, by simp, ?_, own_swap hnow8 ha hbb, hn2, ((((hb.trans (b7.mono (by omega))).trans (hb8.mono (by omega))).setCell (by show w.heap.size ≤ g5; omega) _).setCell (by show w.heap.size ≤ g5; omega) _), by simp; omega, HD2, by simp; omega⟩, by first | (simp [intOf]; done) | (simp [intOf]; omega)⟩
            show OwnC _ _ _ _ _ _ _ _ _
            rw [List.map_append, List.length_append]
            exact ((ho8.far (.inl gb) _).far (.inl gb) _).mono (Nat.le_refl _) (by simp)
    · go_wp2_with (fail)
      go_ret
      have he := HD.out
      rw [drop_all (by omega), dblFrom, List.append_nil] at he
      rw [he]
      exact ⟨_, _, rfl, ho.mono (by omega) (Nat.le_refl _), hb⟩

end Go.Proofs.YtnjgmhdmjaijgaaGreat

/- The permutation of a braid, the inversions of a permutation: the given side. -/
namespace Go.Proofs.YtnjgmhdmjaijgaaGreat
open Go Go.RowKit

theorem swW_snoc {xs L : List Int} {i : Nat} {x : Int} (h : xs[i]? = some x) : swW (xs.take (i + 1)) L = swapL (x.natAbs - 1) (swW (xs.take i) L) := by
  rw [take_snoc h, swW_append]; rfl
theorem iotaN_snoc (n : Nat) : iotaI (n + 1) = iotaI n ++ [(n : Int)] := by simp [iotaI, List.range_succ]

end Go.Proofs.YtnjgmhdmjaijgaaGreat

/- Permutations of normal forms, the given side: identity, half twist, inverse, letters at the start and at the end. -/
namespace Go.Proofs.YtnjgmhdmjaijgaaGreat
open Go Go.RowKit
open Br (idl halfl invl flipl sw bh dB finB lwB Pm)

theorem idl_iota (n : Nat) : idl n = iotaI n := rfl
theorem idl_snoc (n : Nat) : idl (n + 1) = idl n ++ [(n : Int)] := by rw [idl_iota, idl_iota, iotaN_snoc]
theorem halfl_snoc {n m : Nat} (h : m < n) : (halfl n).take (m + 1) = (halfl n).take m ++ [(n : Int) - 1 - m] := by
  refine take_snoc ?_
  unfold halfl
  rw [List.getElem?_map, Br.idl_get h]
  rfl
/-- The letters with which a permutation can begin, the first m places alone. -/
def stTo (p : List Int) (m : Nat) : List Int := ((List.range m).filter (fun j => dB j p)).map (fun j : Nat => (j : Int) + 1)
theorem stTo_zero (p : List Int) : stTo p 0 = [] := rfl
theorem stTo_succ (p : List Int) (m : Nat) : stTo p (m + 1) = stTo p m ++ (if dB m p then [(m : Int) + 1] else []) := by
  unfold stTo
  rw [List.range_succ, List.filter_append, List.map_append]
  congr 1
  by_cases h : dB m p = true
  · rw [if_pos h, List.filter_cons_of_pos (by simpa using h)]; rfl
  · rw [if_neg h, List.filter_cons_of_neg (by simpa using h)]; rfl
theorem stTo_length (p : List Int) (m : Nat) : (stTo p m).length ≤ m := by
  unfold stTo
  rw [List.length_map]
  exact Nat.le_trans (List.length_filter_le _ _) (by simp)
def startsL (p : List Int) : List Int := stTo p (p.length - 1)
theorem startsL_mem {p : List Int} {x : Int} : x ∈ startsL p ↔ ∃ j : Nat, x = (j : Int) + 1 ∧ dB j p = true := by
  unfold startsL stTo
  rw [List.mem_map]
  constructor
  · rintro ⟨j, hj, rfl⟩
    rw [List.mem_filter] at hj
    exact ⟨j, rfl, hj.2⟩
  · rintro ⟨j, rfl, hj⟩
    refine ⟨j, ?_, rfl⟩
    rw [List.mem_filter, List.mem_range]
    have := Br.dB_lt hj
    exact ⟨by omega, hj⟩
theorem startsL_length (p : List Int) : (startsL p).length ≤ p.length := Nat.le_trans (stTo_length _ _) (by omega)

set_option maxHeartbeats 2000000 in
set_option maxRecDepth 10000 in
theorem spec_l04Identity (n : Nat) (w : World) (hn : n ≤ 100) :
    Calls Tryz.prog 131 #[.int .i64 (n : Int)] w fun e w' => ∃ A' c', e = .returned (.slice A' n c') ∧ OwnC w' w.heap.size w'.heap.size 2 1 A' n c' ((idl n).map (Value.int .i64)) ∧ Below w.heap.size w w' := by
  obtain ⟨i0, hi0, hz0, hz1, hz2⟩ := info_parts info_int64
  go_enter Tryz.func131, Tryz.ntmps131
  go_wp2_with (fail)
  go_loopw [3, 4] (fun ov iv wr => ∃ (i : Nat) (A3 : Option Addr) (c3 : Nat), i ≤ n ∧ iv = .int .i64 i ∧ ov = .slice A3 i c3 ∧ OwnC wr w.heap.size wr.heap.size 2 1 A3 i c3 ((idl i).map (Value.int .i64)) ∧ Below w.heap.size w wr) (fun _ iv _ => n - (intOf iv).toNat)
  case atStart =>
    refine ⟨0, some ⟨w.heap.size, 0, none⟩, 0, Nat.zero_le _, rfl, rfl, ?_, by (repeat (first | exact Below.refl _ _ | assumption | apply Below.drew | apply below_drewN | (refine Below.alloc ?_ (by first | omega | (simp; done) | (simp; omega)) _) | (refine Below.setCell ?_ (by first | omega | (simp; done) | (simp; omega)) _)))⟩
    exact (OwnC.lit (w := w) (lo := w.heap.size) (n := 0) 2 1 #[] (Nat.le_refl _) (Nat.zero_le _) rfl).mono (Nat.le_refl _) (by simp)
  case round =>
    obtain ⟨i, A3, c3, hi, rfl, rfl, o3, hb⟩ := hrel
    have hzs := hb.size
    by_cases hin : i < n
    · have di : decide ((i : Int) < (n : Int)) = true := decide_eq_true (by omega)
      have HX : Hid ((idl (i + 1)).map (Value.int .i64) = (idl i).map (Value.int .i64) ++ [.int .i64 (i : Int)]) := Lib.hid (by rw [idl_snoc]; simp)
      go_wp2_with (at_builtin; refine wpList_append1 wr [.int .i64 (i : Int)] _ rfl (.tmp 11) (.tmp 13) _ rfl 2 i0 _ 1 8 Tryz.underlying36 hi0 hz0 hz1 hz2 rfl (by decide) rfl o3 hzs 1 rfl rfl (by simp [Value.oneCell']) (by omega) (by decide) ?_; intro A2 c2 w3 ho2 hg2 hb3 hz2')
      exact ⟨⟨i + 1, A2, c2, by omega, by go_num, rfl, by rw [HX.out]; exact ho2, hb.trans hb3⟩, by simp [intOf]; omega⟩
    · obtain rfl : i = n := by omega
      have di : decide ((i : Int) < (i : Int)) = false := decide_eq_false (by omega)
      go_wp2_with (fail)
      go_ret
      exact ⟨A3, c3, rfl, o3, hb⟩

set_option maxHeartbeats 2000000 in
set_option maxRecDepth 10000 in
theorem spec_l04Half (n : Nat) (w : World) (hn : n ≤ 100) :
    Calls Tryz.prog 133 #[.int .i64 (n : Int)] w fun e w' => ∃ A' c', e = .returned (.slice A' n c') ∧ OwnC w' w.heap.size w'.heap.size 2 1 A' n c' ((halfl n).map (Value.int .i64)) ∧ Below w.heap.size w w' := by
  obtain ⟨i0, hi0, hz0, hz1, hz2⟩ := info_parts info_int64
  have j1 : IntKind.i64.wrap ((n : Int) - 1) = (n : Int) - 1 := IntWalk.i64_in _ ⟨by omega, by omega⟩
  go_enter Tryz.func133, Tryz.ntmps133
  go_wp2_with (fail)
  go_loopw [3, 4] (fun ov iv wr => ∃ (i : Nat) (A3 : Option Addr) (c3 : Nat), i ≤ n ∧ iv = .int .i64 ((n : Int) - 1 - i) ∧ ov = .slice A3 i c3 ∧ OwnC wr w.heap.size wr.heap.size 2 1 A3 i c3 (((halfl n).take i).map (Value.int .i64)) ∧ Below w.heap.size w wr) (fun _ iv _ => (intOf iv + 1).toNat)
  case atStart =>
    refine ⟨0, some ⟨w.heap.size, 0, none⟩, 0, Nat.zero_le _, by simp, rfl, ?_, by (repeat (first | exact Below.refl _ _ | assumption | apply Below.drew | apply below_drewN | (refine Below.alloc ?_ (by first | omega | (simp; done) | (simp; omega)) _) | (refine Below.setCell ?_ (by first | omega | (simp; done) | (simp; omega)) _)))⟩
    exact (OwnC.lit (w := w) (lo := w.heap.size) (n := 0) 2 1 #[] (Nat.le_refl _) (Nat.zero_le _) rfl).mono (Nat.le_refl _) (by simp)
  case round =>
    clear j1
    obtain ⟨i, A3, c3, hi, rfl, rfl, o3, hb⟩ := hrel
    have hzs := hb.size
    by_cases hin : i < n
    · have HX : Hid (((halfl n).take (i + 1)).map (Value.int .i64) = ((halfl n).take i).map (Value.int .i64) ++ [.int .i64 ((n : Int) - 1 - i)]) := Lib.hid (by rw [halfl_snoc hin]; simp)
      have HE : Hid ((n : Int) - 1 - (i + 1 : Nat) = (n : Int) - 1 - i - 1) := Lib.hid (by omega)
      obtain ⟨v, hv⟩ : ∃ v, v = (n : Int) - 1 - i := ⟨_, rfl⟩
      rw [← hv] at HX HE ⊢
      have hv0 : 0 ≤ v ∧ v ≤ 1000 := by omega
      have HV := Lib.hid hv; clear hv
      have di : decide (v ≥ 0) = true := decide_eq_true (by omega)
      have jv : IntKind.i64.wrap (v - 1) = v - 1 := IntWalk.i64_in _ ⟨by omega, by omega⟩
      go_wp2_with (at_builtin; refine wpList_append1 wr [.int .i64 v] _ rfl (.tmp 12) (.tmp 14) _ rfl 2 i0 _ 1 8 Tryz.underlying36 hi0 hz0 hz1 hz2 rfl (by decide) rfl o3 hzs 1 rfl rfl (by simp [Value.oneCell']) (by omega) (by decide) ?_; intro A2 c2 w3 ho2 hg2 hb3 hz2')
      exact ⟨⟨i + 1, A2, c2, by omega, by rw [HE.out], rfl, by rw [HX.out]; exact ho2, hb.trans hb3⟩, by simp [intOf]; omega⟩
    · obtain rfl : i = n := by omega
      have di : decide ((i : Int) - 1 - (i : Int) ≥ 0) = false := decide_eq_false (by omega)
      go_wp2_with (fail)
      go_ret
      rw [take_all (by rw [Br.halfl_length]; exact Nat.le_refl _)] at o3
      exact ⟨A3, c3, rfl, o3, hb⟩

set_option maxHeartbeats 2000000 in
set_option maxRecDepth 10000 in
theorem spec_l04Start (p : List Int) (A : Option Addr) (c : Nat) (w : World) (h : Ints w A p) (hl : p.length ≤ 100) :
    Calls Tryz.prog 171 #[.slice A p.length c] w fun e w' => ∃ A' c', e = .returned (.slice A' (startsL p).length c') ∧ OwnI w' w.heap.size w'.heap.size A' c' (startsL p) ∧ Below w.heap.size w w' := by
  obtain ⟨i0, hi0, hz0, hz1, hz2⟩ := info_parts info_int64
  have o1 := (OwnC.lit (w := w) (lo := w.heap.size) (n := 0) 2 1 #[] (Nat.le_refl _) (Nat.zero_le _) rfl).mono (Nat.le_refl _) (show w.heap.size + 1 ≤ (w.alloc (.cells #[] 2)).heap.size by simp)
  have O1 := Lib.hid o1; clear o1
  have hb1 : Below w.heap.size w (w.alloc (.cells #[] 2)) := by (repeat (first | exact Below.refl _ _ | assumption | apply Below.drew | apply below_drewN | (refine Below.alloc ?_ (by first | omega | (simp; done) | (simp; omega)) _) | (refine Below.setCell ?_ (by first | omega | (simp; done) | (simp; omega)) _)))
  go_enter Tryz.func171, Tryz.ntmps171
  go_wp2_with (fail)
  go_loopw [3, 4] (fun ov kv wr => ∃ (k : Nat) (A' : Option Addr) (c' : Nat) (out : List Int), k ≤ p.length ∧ kv = .int .i64 ((k : Int) + 1) ∧ ov = .slice A' out.length c' ∧ OwnI wr w.heap.size wr.heap.size A' c' out ∧ Below w.heap.size w wr ∧ Hid (out = stTo p k) ∧ out.length ≤ k ∧ (k = 0 ∨ k + 1 ≤ p.length)) (fun _ kv _ => p.length + 1 - (intOf kv).toNat)
  case atStart => exact ⟨0, some ⟨w.heap.size, 0, none⟩, 0, [], by omega, rfl, rfl, O1.out, hb1, Lib.hid rfl, by simp, .inl rfl⟩
  case round =>
    clear O1 hb1
    obtain ⟨k, A', c', out, hk, rfl, rfl, ho, hb, HD, hol, hke⟩ := hrel
    have hzs := hb.size
    by_cases hkl : k + 1 < p.length
    · have hd0 : decide ((k : Int) + 1 < (p.length : Int)) = true := decide_eq_true (by omega)
      obtain ⟨b, off, a, rfl, ca, ha⟩ := (h.below hb) k (by omega)
      obtain ⟨b', off', bb, hA, cb, hbb⟩ := (h.below hb) (k + 1) hkl
      injection hA with hA
      injection hA with hA1 hA2
      subst hA1 hA2
      have j0 : IntKind.i64.wrap ((k : Int) + 1 - 1) = (k : Int) := by rw [show (k : Int) + 1 - 1 = (k : Int) by omega]; exact IntWalk.i64_in _ (by omega)
      have j1 : (0 : Int) ≤ (k : Int) := by omega
      have j2 : (k : Int) < (p.length : Int) := by omega
      have j3 : (k : Int) + 1 < (p.length : Int) := by omega
      have j4 : (0 : Int) ≤ (k : Int) + 1 := by omega
      have j5 : ((k : Int) + 1).toNat = k + 1 := by omega
      have j6 : IntKind.i64.wrap ((k : Int) + 1 + 1) = ((k + 1 : Nat) : Int) + 1 := by rw [show (k : Int) + 1 + 1 = ((k + 1 : Nat) : Int) + 1 by omega]; exact IntWalk.i64_in _ (by omega)
      have hdB : dB k p = decide (bb < a) := Br.dB_get ha hbb
      have hss := stTo_succ p k
      rw [hdB] at hss
      have hop : out.length ≤ 100 := by omega
      clear ha hbb hdB hke
      by_cases hab : bb < a
      · have hd : decide (bb < a) = true := decide_eq_true hab
        have HD2 : Hid (out ++ [(k : Int) + 1] = stTo p (k + 1)) := Lib.hid (by rw [hss, hd, if_pos rfl, HD.out])
        clear hab hss
        go_wp2_with (fail)
        go_quiet (fail)
        obtain ⟨w7, hw7⟩ : ∃ w7, w7 = World.drewN wr nq := ⟨_, rfl⟩
        have ho7 : OwnI w7 w.heap.size w7.heap.size A' c' out := by rw [hw7]; exact OwnC.drewN ho nq
        have hb7 : Below w.heap.size w w7 := by rw [hw7]; exact below_drewN hb nq
        have hz7 : w.heap.size ≤ w7.heap.size := hb7.size
        rw [← hw7]
        clear hw7 ca cb ho hb hzs
        go_wp2_with (at_builtin; refine wpList_append1 w7 [.int .i64 ((k : Int) + 1)] _ rfl (.tmp 22) (.tmp 24) _ rfl 2 i0 _ 1 8 Tryz.underlying36 hi0 hz0 hz1 hz2 rfl (by decide) rfl ho7 hz7 1 rfl rfl (by simp [Value.oneCell']) (by omega) (by decide) ?_; intro A9 c9 w8 ho8 hg8 hb8 hz8)
        refine ⟨⟨k + 1, A9, c9, out ++ [(k : Int) + 1], by omega, rfl, by simp, ?_, hb7.trans hb8, HD2, by simp; omega, .inr (by omega)⟩, by simp [intOf]; omega⟩
        show OwnC _ _ _ _ _ _ _ _ _
        rw [List.map_append, List.length_append]
        exact ho8
      · have hd : decide (bb < a) = false := decide_eq_false hab
        have HD2 : Hid (out = stTo p (k + 1)) := Lib.hid (by rw [hss, hd, HD.out]; simp)
        clear hab hss
        go_wp2_with (fail)
        go_quiet (fail)
        go_wp2_with (fail)
        exact ⟨⟨k + 1, A', c', out, by omega, rfl, rfl, OwnC.drewN ho _, below_drewN hb _, HD2, by omega, .inr (by omega)⟩, by simp [intOf]; omega⟩
    · have hd0 : decide ((k : Int) + 1 < (p.length : Int)) = false := decide_eq_false (by omega)
      have HF : Hid (out = startsL p) := Lib.hid (by rw [HD.out, startsL, show p.length - 1 = k by omega])
      go_wp2_with (fail)
      go_ret
      refine ⟨A', c', by rw [← HF.out]; rfl, ?_, hb⟩
      rw [← HF.out]
      exact ho

end Go.Proofs.YtnjgmhdmjaijgaaGreat
