/- Steps of the proof, joined from several texts: GA YA YB ZA ZB ZC ZD ZE ZF ZG ZH ZI GB O4 GC. -/
import Derived.Test.YtnjgmhdmjaijgaaGreatDoorZ1
import Derived.Test.YtnjgmhdmjaijgaaGreatDoorZ9
import Derived.Test.YtnjgmhdmjaijgaaGreatDoorZ5
import Derived.Test.YtnjgmhdmjaijgaaGreatDoorZ10
import Derived.Test.YtnjgmhdmjaijgaaGreatDoorZ4
import Derived.Test.YtnjgmhdmjaijgaaGreatDoorZ7
import Derived.Test.YtnjgmhdmjaijgaaGreatDoorZ3
import Derived.Laws.Bits64b

/- The draws: the numbers of the source, plain. -/
namespace Go.Proofs.YtnjgmhdmjaijgaaGreatDoor
open Go Go.RowKit

def iterN (f : Nat → Nat) : Nat → Nat → Nat
  | 0, s => s
  | n + 1, s => iterN f n (f s)
theorem iterN_zero (f : Nat → Nat) (s : Nat) : iterN f 0 s = s := rfl
theorem iterN_succ (f : Nat → Nat) (n s : Nat) : iterN f (n + 1) s = iterN f n (f s) := rfl
theorem iterN_add (f : Nat → Nat) (a b s : Nat) : iterN f (a + b) s = iterN f b (iterN f a s) := by
  induction a generalizing s with
  | zero => rw [Nat.zero_add, iterN_zero]
  | succ a ih => rw [Nat.succ_add, iterN_succ, ih, iterN_succ]
theorem mod_lin (x a c m : Nat) : (x % m * a + c) % m = (x * a + c) % m := by
  rw [Nat.add_mod, Nat.mul_mod, Nat.mod_mod, ← Nat.mul_mod, ← Nat.add_mod]
def lin (a c m s : Nat) : Nat := (s * a + c) % m
/-- The map behind 2^k steps: x * A + C. -/
theorem iter_pow (a c m u v : Nat) (ha : a = 4 * u + 1) (hc : c = 2 * v + 1) (k : Nat) : ∃ A C u' v', A = 4 * 2 ^ k * u' + 1 ∧ C = 2 ^ k * (2 * v' + 1) ∧ ∀ s, iterN (lin a c m) (2 ^ k) s = (s * A + C) % m := by
  induction k with
  | zero => exact ⟨a, c, u, v, by simp [ha], by simp [hc], fun s => rfl⟩
  | succ k ih =>
    obtain ⟨A, C, u', v', hA, hC, h⟩ := ih
    refine ⟨A * A, C * A + C, 2 * 2 ^ k * u' * u' + u', 2 * v' * (2 ^ k * u') + v' + 2 ^ k * u', ?_, ?_, fun s => ?_⟩
    · rw [hA, Nat.pow_succ]
      generalize 2 ^ k = P
      simp only [Nat.mul_add, Nat.add_mul, Nat.mul_one, Nat.one_mul]
      generalize hq : P * u' = q
      have e0 : 4 * P * u' = 4 * q := by rw [← hq, Nat.mul_assoc]
      have e1 : 4 * (P * 2) * (2 * P * u' * u') = 16 * (q * q) := by
        rw [← hq]
        simp only [Nat.mul_assoc, Nat.mul_left_comm, Nat.mul_comm]
        try omega
      have e2 : 4 * (P * 2) * u' = 8 * q := by rw [← hq, show 4 * (P * 2) = 8 * P by omega, Nat.mul_assoc]
      have e3 : 4 * q * (4 * q) = 16 * (q * q) := by
        simp only [Nat.mul_assoc, Nat.mul_left_comm, Nat.mul_comm]
        try omega
      rw [e0, e1, e2, e3]
      omega
    · rw [hC, hA, Nat.pow_succ]
      generalize 2 ^ k = P
      generalize hq : P * u' = q
      have e0 : 4 * P * u' = 4 * q := by rw [← hq, Nat.mul_assoc]
      rw [e0, ← Nat.mul_succ, Nat.mul_assoc, Nat.mul_assoc]
      congr 1
      simp only [Nat.mul_add, Nat.add_mul, Nat.mul_one, Nat.one_mul, Nat.succ_eq_add_one]
      have e1 : 2 * v' * (4 * q) = 2 * (2 * (2 * v' * q)) := by
        simp only [Nat.mul_assoc, Nat.mul_left_comm, Nat.mul_comm]
        try omega
      omega
    · rw [Nat.pow_succ, Nat.mul_two, iterN_add, h, h, mod_lin]
      congr 1
      rw [Nat.add_mul, Nat.mul_assoc, Nat.add_assoc]
/-- The seed behind one number, where the code is at its end. -/
abbrev lcg : Nat → Nat := lin 6364136223846793005 1442695040888963407 18446744073709551616
/-- The byte that the source gives. -/
def byteOf (s : Nat) : Nat := s / 1099511627776 % 256
theorem flipG_at (s q : Nat) : byteOf ((1099511627776 * (2 * q + 1) + s) % 18446744073709551616) % 2 = (byteOf s + 1) % 2 := by
  unfold byteOf
  omega
theorem flip_arr (P s u v : Nat) : s * (4 * P * u + 1) + P * (2 * v + 1) = P * (2 * (2 * (s * u) + v) + 1) + s := by
  have e3 : s * (4 * P * u + 1) = P * (4 * (s * u)) + s := by
    rw [Nat.mul_add, Nat.mul_one]
    congr 1
    simp only [Nat.mul_assoc, Nat.mul_left_comm, Nat.mul_comm]
  have e4 : P * (2 * (2 * (s * u) + v) + 1) = P * (4 * (s * u)) + P * (2 * v + 1) := by
    rw [← Nat.mul_add]
    congr 1
    omega
  rw [e3, e4]
  omega
theorem pow_40 : (2 : Nat) ^ 40 = 1099511627776 := by decide
theorem byte_flip (s : Nat) : byteOf (iterN lcg (2 ^ 40) s) % 2 = (byteOf s + 1) % 2 := by
  obtain ⟨A, C, u, v, hA, hC, h⟩ := iter_pow 6364136223846793005 1442695040888963407 18446744073709551616 1591034055961698251 721347520444481703 (by decide) (by decide) 40
  rw [h s, hA, hC, flip_arr, pow_40]
  exact flipG_at s _
/-- The source leaves the bytes that stand for the fifth of fourteen. -/
theorem leaves (s : Nat) : ∃ n : Nat, n ≤ 2 ^ 40 ∧ byteOf (iterN lcg n s) % 14 ≠ 5 := by
  by_cases h : byteOf s % 14 = 5
  · refine ⟨2 ^ 40, Nat.le_refl _, fun h2 => ?_⟩
    have h3 := byte_flip s
    generalize byteOf (iterN lcg (2 ^ 40) s) = x at h2 h3
    omega
  · exact ⟨0, Nat.zero_le _, h⟩

end Go.Proofs.YtnjgmhdmjaijgaaGreatDoor

/- The letters of two blocks that change places. -/
namespace Go.Proofs.YtnjgmhdmjaijgaaGreatDoor
open Go.RowKit

def swRow (p s : Int) : Nat → List Int
  | 0 => []
  | k + 1 => (s * (p + (k : Int) + 1)) :: swRow p s k
def swTo (place s : Int) (a : Nat) : Nat → List Int
  | 0 => []
  | t + 1 => swTo place s a t ++ swRow (place + (t : Int)) s a
theorem swRow_length (p s : Int) (a : Nat) : (swRow p s a).length = a := by
  induction a with
  | zero => rfl
  | succ a ih => simp [swRow, ih]
theorem swTo_length (place s : Int) (a b : Nat) : (swTo place s a b).length = a * b := by
  induction b with
  | zero => rfl
  | succ b ih => rw [swTo, List.length_append, ih, swRow_length, Nat.mul_succ]

end Go.Proofs.YtnjgmhdmjaijgaaGreatDoor

/- Doubled braids: the plain functions. -/
namespace Go.Proofs.YtnjgmhdmjaijgaaGreatDoor
open Go.RowKit

def sgnI (x : Int) : Int := if x < 0 then -1 else 1
theorem sgnI_cases (x : Int) : sgnI x = 1 ∨ sgnI x = -1 := by unfold sgnI; split <;> simp
def swapL (k : Nat) (xs : List Int) : List Int := (xs.set k (xs.getD (k + 1) 0)).set (k + 1) (xs.getD k 0)
def dblFrom : List Int → List Int → List Int
  | [], _ => []
  | x :: xs, now => swTo (sumI (now.take (x.natAbs - 1))) (sgnI x) (now.getD (x.natAbs - 1) 0).toNat (now.getD (x.natAbs - 1 + 1) 0).toNat ++ dblFrom xs (swapL (x.natAbs - 1) now)
theorem decomp {now : List Int} {k : Nat} {a b : Int} (ha : now[k]? = some a) (hb : now[k + 1]? = some b) : ∃ pre post, now = pre ++ a :: b :: post ∧ pre.length = k ∧ now.take k = pre := by
  have hk := (List.getElem?_eq_some_iff.1 ha).1
  refine ⟨now.take k, now.drop (k + 1 + 1), ?_, by rw [List.length_take]; omega, rfl⟩
  rw [← drop_cons hb, ← drop_cons ha, List.take_append_drop]
theorem getD_of {now : List Int} {k : Nat} {a : Int} (ha : now[k]? = some a) : now.getD k 0 = a := by rw [List.getD_eq_getElem?_getD, ha]; rfl
theorem swapL_at {now : List Int} {k : Nat} {a b : Int} (ha : now[k]? = some a) (hb : now[k + 1]? = some b) : swapL k now = (now.set k b).set (k + 1) a := by
  rw [swapL, getD_of ha, getD_of hb]
theorem swapL_eq {pre post : List Int} {a b : Int} : ((pre ++ a :: b :: post).set pre.length b).set (pre.length + 1) a = pre ++ b :: a :: post := by
  rw [List.set_append_right _ _ (Nat.le_refl _), Nat.sub_self, List.set_cons_zero, List.set_append_right _ _ (by omega), show pre.length + 1 - pre.length = 1 by omega]
  rfl
structure NowB (now : List Int) (n : Nat) (S : Int) : Prop where
  len : now.length = n
  one : ∀ y ∈ now, 1 ≤ y ∧ y ≤ 4
  sum : sumI now = S
theorem sumI_nonneg {xs : List Int} (h : ∀ y ∈ xs, 1 ≤ y ∧ y ≤ 4) : 0 ≤ sumI xs := by
  induction xs with
  | nil => simp [sumI]
  | cons x xs ih =>
    have h1 := h x (by simp)
    have h2 := ih fun y hy => h y (by simp [hy])
    rw [sumI]; omega
theorem NowB.swap {now : List Int} {n k : Nat} {S a b : Int} (h : NowB now n S) (ha : now[k]? = some a) (hb : now[k + 1]? = some b) : NowB (swapL k now) n S ∧ 0 ≤ sumI (now.take k) ∧ sumI (now.take k) + a + b ≤ S := by
  rw [swapL_at ha hb]
  obtain ⟨pre, post, rfl, rfl, hp⟩ := decomp ha hb
  obtain ⟨h1, h2, h3⟩ := h
  rw [swapL_eq, hp]
  simp only [List.length_append, List.length_cons] at h1
  have e : sumI (pre ++ b :: a :: post) = sumI (pre ++ a :: b :: post) := by rw [sumI_append, sumI_append, sumI, sumI, sumI, sumI]; omega
  have hpost := sumI_nonneg (xs := post) (fun y hy => h2 y (by simp [hy]))
  have hpre := sumI_nonneg (xs := pre) (fun y hy => h2 y (by simp [hy]))
  refine ⟨⟨by simp; omega, fun y hy => h2 y ?_, by rw [e, h3]⟩, hpre, ?_⟩
  · simp only [List.mem_append, List.mem_cons] at hy ⊢
    rcases hy with h | h | h | h <;> simp [h]
  · rw [sumI_append, sumI, sumI] at h3; omega
theorem NowB.take {now : List Int} {n : Nat} {S : Int} (h : NowB now n S) (j : Nat) : 0 ≤ sumI (now.take j) ∧ sumI (now.take j) ≤ S := by
  have h1 := sumI_nonneg (xs := now.take j) (fun y hy => h.one y (List.mem_of_mem_take hy))
  have h2 := sumI_nonneg (xs := now.drop j) (fun y hy => h.one y (List.mem_of_mem_drop hy))
  have h3 := h.sum
  rw [← List.take_append_drop j now, sumI_append] at h3
  omega
theorem own_at {w : World} {lo hi g c j : Nat} {now : List Int} {y : Int} (h : OwnI w lo hi (some ⟨g, 0, none⟩) c now) (hy : now[j]? = some y) : w.cell? ⟨g, j, none⟩ = some (.int .i64 y) ∧ w.frozen? ⟨g, j, none⟩ = false ∧ lo ≤ g ∧ g < hi := by
  have hj := (List.getElem?_eq_some_iff.1 hy).1
  obtain ⟨g', hg, h0, h1, hc, hf⟩ := OwnC.cell h (j := j) (by simpa using hj)
  injection hg with hg
  injection hg with hg
  subst hg
  refine ⟨?_, hf, h0, h1⟩
  rw [hc]
  have := (List.getElem?_eq_some_iff.1 hy).2
  simp [this]
theorem own_swap {w : World} {lo hi g c k : Nat} {now : List Int} {a b : Int} (h : OwnI w lo hi (some ⟨g, 0, none⟩) c now) (ha : now[k]? = some a) (hb : now[k + 1]? = some b) :
    OwnI ((w.setCell ⟨g, k, none⟩ (.int .i64 b)).setCell ⟨g, k + 1, none⟩ (.int .i64 a)) lo hi (some ⟨g, 0, none⟩) c (swapL k now) := by
  rw [swapL_at ha hb]
  show OwnC _ _ _ _ _ _ _ _ _
  rw [List.map_set, List.map_set, List.length_set, List.length_set]
  exact (OwnC.store (OwnC.store h _).1 _).1
theorem swRow_mem {p s y : Int} {a : Nat} (h : y ∈ swRow p s a) : ∃ j : Nat, j < a ∧ y = s * (p + (j : Int) + 1) := by
  induction a with
  | zero => simp [swRow] at h
  | succ a ih =>
    rw [swRow, List.mem_cons] at h
    rcases h with h | h
    · exact ⟨a, by omega, h⟩
    · obtain ⟨j, hj, e⟩ := ih h
      exact ⟨j, by omega, e⟩
theorem swTo_mem {p s y : Int} {a b : Nat} (h : y ∈ swTo p s a b) : ∃ j u : Nat, j < a ∧ u < b ∧ y = s * (p + (u : Int) + (j : Int) + 1) := by
  induction b with
  | zero => simp [swTo] at h
  | succ b ih =>
    rw [swTo, List.mem_append] at h
    rcases h with h | h
    · obtain ⟨j, u, hj, hu, e⟩ := ih h
      exact ⟨j, u, hj, by omega, e⟩
    · obtain ⟨j, hj, e⟩ := swRow_mem h
      exact ⟨j, b, hj, by omega, e⟩
theorem now_at {now : List Int} {n k : Nat} {S : Int} (h : NowB now n S) (hk : k < n) : ∃ a, now[k]? = some a ∧ 1 ≤ a ∧ a ≤ 4 := by
  have hl := h.len
  exact ⟨now[k]'(by omega), List.getElem?_eq_getElem (by omega), h.one _ (List.getElem_mem _)⟩
theorem dbl_valid {n : Nat} {S : Int} : ∀ (word now : List Int), (∀ x ∈ word, 1 ≤ x.natAbs ∧ x.natAbs < n) → NowB now n S → lettersB S (dblFrom word now) = true
  | [], _, _, _ => rfl
  | x :: xs, now, hw, hn => by
    obtain ⟨h1, h2⟩ := hw x (by simp)
    obtain ⟨a, ha, a1, a4⟩ := now_at hn (k := x.natAbs - 1) (by omega)
    obtain ⟨b, hb, b1, b4⟩ := now_at hn (k := x.natAbs - 1 + 1) (by omega)
    obtain ⟨hn2, hs0, hs1⟩ := hn.swap ha hb
    rw [dblFrom, getD_of ha, getD_of hb, lettersB, List.all_append, ← lettersB, ← lettersB, dbl_valid xs _ (fun y hy => hw y (by simp [hy])) hn2, Bool.and_true, lettersB, List.all_eq_true]
    intro y hy
    obtain ⟨j, u, hj, hu, rfl⟩ := swTo_mem hy
    have e1 : ((a.toNat : Nat) : Int) = a := by omega
    have e2 : ((b.toNat : Nat) : Int) = b := by omega
    unfold letterB
    rw [Bool.and_eq_true, decide_eq_true_eq, inR_iff]
    rcases sgnI_cases x with e | e <;> rw [e] <;> omega
theorem dbl_length {n : Nat} {S : Int} : ∀ (word now : List Int), (∀ x ∈ word, 1 ≤ x.natAbs ∧ x.natAbs < n) → NowB now n S → (dblFrom word now).length ≤ 16 * word.length
  | [], _, _, _ => by simp [dblFrom]
  | x :: xs, now, hw, hn => by
    obtain ⟨h1, h2⟩ := hw x (by simp)
    obtain ⟨a, ha, a1, a4⟩ := now_at hn (k := x.natAbs - 1) (by omega)
    obtain ⟨b, hb, b1, b4⟩ := now_at hn (k := x.natAbs - 1 + 1) (by omega)
    obtain ⟨hn2, hs0, hs1⟩ := hn.swap ha hb
    have ih := dbl_length xs _ (fun y hy => hw y (by simp [hy])) hn2
    rw [dblFrom, getD_of ha, getD_of hb, List.length_append, swTo_length, List.length_cons]
    have := Nat.mul_le_mul (show a.toNat ≤ 4 by omega) (show b.toNat ≤ 4 by omega)
    omega
/-- Doubled braids, and the braid of a row over stacks. -/
structure BrY where
  n : Int
  xs : List Int
def dbCode (word sizes : List Int) : Int := if braidB sizes.length word then (if (dblFrom word sizes).length ≤ 40 then 0 else 5) else 1
def dbX (word sizes : List Int) : BrY := if dbCode word sizes = 0 then ⟨sumI sizes, dblFrom word sizes⟩ else ⟨0, []⟩
theorem db_err {word sizes : List Int} {k : Int} (e : dbCode word sizes = k) (hk : k ≠ 0) : dbX word sizes = ⟨0, []⟩ ∧ dbCode word sizes = k := ⟨by rw [dbX, if_neg (by rw [e]; exact hk)], e⟩
theorem dbX_size (word sizes : List Int) : (dbX word sizes).xs.length ≤ 40 := by
  unfold dbX
  split
  · rename_i h
    unfold dbCode at h
    split at h
    · split at h
      · assumption
      · simp at h
    · simp at h
  · simp
def rbOk (ks sizes : List Int) : Bool := laidB ks && decide (((takenS ks : Nat) : Int) = (sizes.length : Int))
def rbCode (d r : Int) (ks sizes : List Int) : Int := if rowB d r ks && sizesB sizes then (if rbOk ks sizes then dbCode (lettersFrom ks 0) sizes else 10) else 1
def rbX (d r : Int) (ks sizes : List Int) : BrY := if rbCode d r ks sizes = 0 then dbX (lettersFrom ks 0) sizes else ⟨0, []⟩
theorem rb_err {d r : Int} {ks sizes : List Int} {k : Int} (e : rbCode d r ks sizes = k) (hk : k ≠ 0) : rbX d r ks sizes = ⟨0, []⟩ ∧ rbCode d r ks sizes = k := ⟨by rw [rbX, if_neg (by rw [e]; exact hk)], e⟩
theorem rb_good {d r : Int} {ks sizes : List Int} (h1 : rowB d r ks = true) (h2 : sizesB sizes = true) (h3 : rbOk ks sizes = true) : rbX d r ks sizes = dbX (lettersFrom ks 0) sizes ∧ rbCode d r ks sizes = dbCode (lettersFrom ks 0) sizes := by
  have e : rbCode d r ks sizes = dbCode (lettersFrom ks 0) sizes := by rw [rbCode, h1, h2, h3]; rfl
  refine ⟨?_, e⟩
  by_cases h0 : dbCode (lettersFrom ks 0) sizes = 0
  · rw [rbX, e, if_pos h0]
  · rw [rbX, e, if_neg h0, dbX, if_neg h0]
theorem rbX_size (d r : Int) (ks sizes : List Int) : (rbX d r ks sizes).xs.length ≤ 40 := by
  unfold rbX
  split
  · exact dbX_size _ _
  · simp
theorem nowB_of {xs : List Int} (h : sizesB xs = true) : NowB xs xs.length (sumI xs) ∧ (1 ≤ xs.length ∧ xs.length ≤ 8) ∧ 0 ≤ sumI xs ∧ sumI xs ≤ 12 ∧ sum64 xs = sumI xs := by
  unfold sizesB stacksB at h
  simp only [Bool.and_eq_true, List.all_eq_true, decide_eq_true_eq, inR_iff] at h
  obtain ⟨⟨h1, h2, h3⟩, h4⟩ := h
  have key : ∀ (ys : List Int), (∀ y ∈ ys, 1 ≤ y ∧ y ≤ 4) → ys.length ≤ 8 → 0 ≤ sumI ys ∧ sumI ys ≤ 4 * ys.length := by
    intro ys
    induction ys with
    | nil => simp [sumI]
    | cons y ys ih =>
      intro ha hb
      have := ih (fun z hz => ha z (by simp [hz])) (by simp at hb; omega)
      have := ha y (by simp)
      rw [sumI, List.length_cons]; push_cast; omega
  have e : ∀ k, k ≤ xs.length → sum64 (xs.take k) = sumI (xs.take k) := by
    intro k
    induction k with
    | zero => intro _; simp [sum64, sumI]
    | succ k ih =>
      intro hk
      have hx : xs[k]? = some (xs[k]'(by omega)) := List.getElem?_eq_getElem (by omega)
      rw [take_snoc hx, sum64_snoc, ih (by omega), sumI_append]
      have hk1 := key (xs.take k) (fun y hy => h2 y (List.mem_of_mem_take hy)) (by rw [List.length_take]; omega)
      have hk2 := h2 (xs[k]'(by omega)) (List.getElem_mem _)
      have hk3 : (xs.take k).length ≤ 8 := by rw [List.length_take]; omega
      rw [IntWalk.wrap64_in _ (by omega)]
      simp [sumI]
  have e2 := e xs.length (Nat.le_refl _)
  rw [List.take_length] at e2
  have hk := key xs h2 h3
  exact ⟨⟨rfl, h2, rfl⟩, ⟨by omega, h3⟩, hk.1, by omega, e2⟩

end Go.Proofs.YtnjgmhdmjaijgaaGreatDoor

/- Permutations: the plain functions. -/
namespace Go.Proofs.YtnjgmhdmjaijgaaGreatDoor
open Go.RowKit

/-- The first descent of a list. -/
def firstDes : List Int → Option Nat
  | a :: b :: xs => if b < a then some 0 else (firstDes (b :: xs)).map (· + 1)
  | _ => none
def invs : List Int → Nat
  | [] => 0
  | x :: xs => xs.countP (fun y => decide (y < x)) + invs xs
def permFuel : Nat → List Int → List Int
  | 0, _ => []
  | f + 1, xs => match firstDes xs with
    | none => []
    | some k => (k : Int) :: permFuel f (swapL k xs)
/-- The exchanges that sort a list, the leftmost one first. -/
def permWord (xs : List Int) : List Int := permFuel (invs xs) xs
theorem firstDes_some {xs : List Int} : ∀ {k : Nat}, firstDes xs = some k → ∃ a b, xs[k]? = some a ∧ xs[k + 1]? = some b ∧ b < a := by
  induction xs with
  | nil => intro k h; simp [firstDes] at h
  | cons a xs ih =>
    intro k h
    cases xs with
    | nil => simp [firstDes] at h
    | cons b xs =>
      rw [firstDes] at h
      split at h
      · rename_i hab
        injection h with h
        subst h
        exact ⟨a, b, rfl, rfl, hab⟩
      · rw [Option.map_eq_some_iff] at h
        obtain ⟨j, hj, rfl⟩ := h
        obtain ⟨a', b', h1, h2, h3⟩ := ih hj
        exact ⟨a', b', by simpa using h1, by simpa using h2, h3⟩
theorem firstDes_before {xs : List Int} : ∀ {j : Nat} {a b : Int}, (∀ k, firstDes xs = some k → j < k) → xs[j]? = some a → xs[j + 1]? = some b → ¬ b < a := by
  induction xs with
  | nil => intro j a b _ h; simp at h
  | cons x xs ih =>
    intro j a b hk ha hb
    cases xs with
    | nil => simp at hb
    | cons y xs =>
      rw [firstDes] at hk
      by_cases hxy : y < x
      · rw [if_pos hxy] at hk
        have := hk 0 rfl
        omega
      · rw [if_neg hxy] at hk
        cases j with
        | zero =>
          simp at ha hb
          subst ha hb
          exact hxy
        | succ j =>
          refine ih (fun k h => ?_) (by simpa using ha) (by simpa using hb)
          have := hk (k + 1) (by rw [h]; rfl)
          omega
theorem firstDes_of {xs : List Int} {k : Nat} {a b : Int} (h1 : ∀ j, j < k → ∀ a b, xs[j]? = some a → xs[j + 1]? = some b → ¬ b < a) (ha : xs[k]? = some a) (hb : xs[k + 1]? = some b) (hab : b < a) : firstDes xs = some k := by
  cases hf : firstDes xs with
  | none => exact absurd hab (firstDes_before (fun k h => by rw [hf] at h; cases h) ha hb)
  | some m =>
    obtain ⟨a', b', h2, h3, h4⟩ := firstDes_some hf
    rcases Nat.lt_trichotomy m k with h | h | h
    · exact absurd h4 (h1 m h a' b' h2 h3)
    · rw [h]
    · exact absurd hab (firstDes_before (fun j hj => by rw [hf] at hj; injection hj with hj; omega) ha hb)
theorem firstDes_none {xs : List Int} (h : ∀ j a b, xs[j]? = some a → xs[j + 1]? = some b → ¬ b < a) : firstDes xs = none := by
  cases hf : firstDes xs with
  | none => rfl
  | some m =>
    obtain ⟨a, b, h2, h3, h4⟩ := firstDes_some hf
    exact absurd h4 (h m a b h2 h3)
theorem invs_swap {a b : Int} (hab : b < a) (post : List Int) : ∀ (pre : List Int), invs (pre ++ a :: b :: post) = invs (pre ++ b :: a :: post) + 1
  | [] => by
    simp only [List.nil_append, invs, List.countP_cons]
    rw [if_pos (by simpa using hab), if_neg (by simp; omega)]
    omega
  | x :: pre => by
    rw [List.cons_append, List.cons_append, invs, invs, invs_swap hab post pre, List.countP_append, List.countP_append, List.countP_cons, List.countP_cons, List.countP_cons, List.countP_cons]
    omega
theorem invs_step {xs : List Int} {k : Nat} (h : firstDes xs = some k) : invs xs = invs (swapL k xs) + 1 := by
  obtain ⟨a, b, ha, hb, hab⟩ := firstDes_some h
  rw [swapL_at ha hb]
  obtain ⟨pre, post, rfl, rfl, _⟩ := decomp ha hb
  rw [swapL_eq, invs_swap hab]
theorem permWord_none {xs : List Int} (h : firstDes xs = none) : permWord xs = [] := by
  unfold permWord
  cases invs xs with
  | zero => rfl
  | succ n => rw [permFuel, h]
theorem permWord_some {xs : List Int} {k : Nat} (h : firstDes xs = some k) : permWord xs = (k : Int) :: permWord (swapL k xs) := by
  unfold permWord
  rw [invs_step h, permFuel, h]
theorem permWord_length (xs : List Int) : (permWord xs).length ≤ invs xs := by
  have key : ∀ (f : Nat) (xs : List Int), (permFuel f xs).length ≤ f := by
    intro f
    induction f with
    | zero => intro xs; simp [permFuel]
    | succ f ih =>
      intro xs
      rw [permFuel]
      split
      · simp
      · rw [List.length_cons]; have := ih (swapL ‹Nat› xs); omega
  exact key _ _
theorem invs_le (xs : List Int) : invs xs ≤ xs.length * xs.length := by
  induction xs with
  | nil => simp [invs]
  | cons x xs ih =>
    have h := List.countP_le_length (p := fun y => decide (y < x)) (l := xs)
    rw [invs, List.length_cons]
    have e : (xs.length + 1) * (xs.length + 1) = xs.length * xs.length + 2 * xs.length + 1 := by simp [Nat.add_mul, Nat.mul_add]; omega
    omega

end Go.Proofs.YtnjgmhdmjaijgaaGreatDoor

/- Permutations: the given side's sorting word. -/
namespace Go.Proofs.YtnjgmhdmjaijgaaGreatDoor
open Go Go.RowKit

def lenV : Value → Nat
  | .slice _ n _ => n
  | _ => 0
end Go.Proofs.YtnjgmhdmjaijgaaGreatDoor

/- Permutations: the program's descents. -/
namespace Go.Proofs.YtnjgmhdmjaijgaaGreatDoor
open Go Go.RowKit

def desL (i : Nat) : List Int → List Int
  | a :: b :: xs => if b < a then (i : Int) :: desL (i + 1) (b :: xs) else desL (i + 1) (b :: xs)
  | _ => []
theorem desL_length (i : Nat) (xs : List Int) : (desL i xs).length ≤ xs.length := by
  induction xs generalizing i with
  | nil => simp [desL]
  | cons a xs ih =>
    cases xs with
    | nil => simp [desL]
    | cons b xs =>
      have := ih (i + 1)
      rw [desL]
      split
      · simp only [List.length_cons] at this ⊢; omega
      · simp only [List.length_cons] at this ⊢; omega
theorem desL_none {xs : List Int} (h : firstDes xs = none) : ∀ i, desL i xs = [] := by
  induction xs with
  | nil => intro i; rfl
  | cons a xs ih =>
    cases xs with
    | nil => intro i; rfl
    | cons b xs =>
      intro i
      rw [firstDes] at h
      split at h
      · cases h
      · rename_i hab
        rw [desL, if_neg hab]
        refine ih ?_ (i + 1)
        cases hf : firstDes (b :: xs) with
        | none => rfl
        | some m => rw [hf] at h; cases h
theorem desL_some {xs : List Int} : ∀ {k : Nat}, firstDes xs = some k → ∀ i, ∃ tl, desL i xs = ((i + k : Nat) : Int) :: tl := by
  induction xs with
  | nil => intro k h; simp [firstDes] at h
  | cons a xs ih =>
    cases xs with
    | nil => intro k h; simp [firstDes] at h
    | cons b xs =>
      intro k h i
      rw [firstDes] at h
      split at h
      · rename_i hab
        injection h with h
        subst h
        rw [desL, if_pos hab]
        exact ⟨_, rfl⟩
      · rename_i hab
        rw [Option.map_eq_some_iff] at h
        obtain ⟨j, hj, rfl⟩ := h
        rw [desL, if_neg hab]
        obtain ⟨tl, e⟩ := ih hj (i + 1)
        exact ⟨tl, by rw [e, show i + 1 + j = i + (j + 1) by omega]⟩
theorem desL_drop {xs : List Int} {i : Nat} {a b : Int} (ha : xs[i]? = some a) (hb : xs[i + 1]? = some b) : desL i (xs.drop i) = (if b < a then [(i : Int)] else []) ++ desL (i + 1) (xs.drop (i + 1)) := by
  rw [drop_cons ha, drop_cons hb, desL]
  split <;> simp
theorem desL_end {xs : List Int} {i : Nat} (h : xs.length ≤ i + 1) : desL i (xs.drop i) = [] := by
  have hl : (xs.drop i).length ≤ 1 := by rw [List.length_drop]; omega
  match hd : xs.drop i, hl with
  | [], _ => rfl
  | [_], _ => rfl
  | _ :: _ :: _, hl => simp at hl

end Go.Proofs.YtnjgmhdmjaijgaaGreatDoor

/- Permutations: the program's sorting word. -/
namespace Go.Proofs.YtnjgmhdmjaijgaaGreatDoor
open Go Go.RowKit

end Go.Proofs.YtnjgmhdmjaijgaaGreatDoor

/- Permutations: the letters. -/
namespace Go.Proofs.YtnjgmhdmjaijgaaGreatDoor
open Go Go.RowKit

theorem permWord_mem (p : List Int) : ∀ x ∈ permWord p, 0 ≤ x ∧ x + 1 < (p.length : Int) := by
  have key : ∀ (f : Nat) (xs : List Int), ∀ x ∈ permFuel f xs, 0 ≤ x ∧ x + 1 < (xs.length : Int) := by
    intro f
    induction f with
    | zero => intro xs x h; simp [permFuel] at h
    | succ f ih =>
      intro xs x h
      rw [permFuel] at h
      cases hf : firstDes xs with
      | none => rw [hf] at h; simp at h
      | some k =>
        rw [hf] at h
        obtain ⟨a, b, ha, hb, _⟩ := firstDes_some hf
        have hk := (List.getElem?_eq_some_iff.1 hb).1
        rcases List.mem_cons.1 h with rfl | h
        · omega
        · have := ih _ x h
          rw [swapL_at ha hb, List.length_set, List.length_set] at this
          exact this
  exact key _ _
def addTo (i : Nat) (ws : List Int) : List Int := (ws.take i).map (· + 1) ++ ws.drop i
theorem addTo_at {ws : List Int} {i : Nat} {x : Int} (h : ws[i]? = some x) : (addTo i ws)[i]? = some x ∧ (addTo i ws).set i (x + 1) = addTo (i + 1) ws := by
  have hi := (List.getElem?_eq_some_iff.1 h).1
  have hl : ((ws.take i).map (· + 1)).length = i := by rw [List.length_map, List.length_take]; omega
  refine ⟨?_, ?_⟩
  · unfold addTo
    rw [List.getElem?_append_right (by omega), hl, Nat.sub_self, List.getElem?_drop, Nat.add_zero]
    exact h
  · unfold addTo
    rw [List.set_append_right _ _ (by omega), hl, Nat.sub_self, drop_cons h, List.set_cons_zero, take_snoc h, List.map_append, List.append_assoc]
    rfl
theorem addTo_length (i : Nat) (ws : List Int) : (addTo i ws).length = ws.length := by
  unfold addTo
  rw [List.length_append, List.length_map, List.length_take, List.length_drop]
  omega
theorem addTo_end (ws : List Int) : addTo ws.length ws = ws.map (· + 1) := by
  unfold addTo
  rw [List.take_length, List.drop_length, List.append_nil]
def permLetters (p : List Int) : List Int := (permWord p).map (· + 1)

end Go.Proofs.YtnjgmhdmjaijgaaGreatDoor

/- Permutations: the plain tests. -/
namespace Go.Proofs.YtnjgmhdmjaijgaaGreatDoor
open Go Go.RowKit

/-- Each entry lies between 0 and n-1 and is not among those before it. -/
def permGo (n : Int) : List Int → List Int → Bool
  | _, [] => true
  | done, x :: xs => inR x 0 (n - 1) && !decide (x ∈ done) && permGo n (done ++ [x]) xs
def permB (p : List Int) : Bool := decide (p.length ≤ 12) && permGo p.length [] p
theorem invs_half (xs : List Int) : 2 * invs xs + xs.length ≤ xs.length * xs.length := by
  induction xs with
  | nil => simp [invs]
  | cons x xs ih =>
    have h := List.countP_le_length (p := fun y => decide (y < x)) (l := xs)
    rw [invs, List.length_cons]
    have e : (xs.length + 1) * (xs.length + 1) = xs.length * xs.length + 2 * xs.length + 1 := by simp [Nat.add_mul, Nat.mul_add]; omega
    omega
theorem permLetters_length (p : List Int) : (permLetters p).length = (permWord p).length := by rw [permLetters, List.length_map]
theorem perm_braid {p : List Int} (h : p.length ≤ 8) : braidB p.length (permLetters p) = true ∧ (permLetters p).length ≤ 28 := by
  have h1 := permWord_length p
  have h2 := invs_half p
  have h3 : p.length * p.length ≤ 7 * p.length + p.length := by have := Nat.mul_le_mul_right p.length h; omega
  have h28 : (permLetters p).length ≤ 28 := by
    rw [permLetters_length]
    rcases (by omega : p.length = 0 ∨ p.length = 1 ∨ p.length = 2 ∨ p.length = 3 ∨ p.length = 4 ∨ p.length = 5 ∨ p.length = 6 ∨ p.length = 7 ∨ p.length = 8) with e | e | e | e | e | e | e | e | e <;> rw [e] at h2 <;> omega
  refine ⟨?_, h28⟩
  rw [braidB]
  simp only [Bool.and_eq_true, decide_eq_true_eq]
  refine ⟨⟨by rw [inR_iff]; omega, by omega⟩, ?_⟩
  rw [lettersB, List.all_eq_true]
  intro y hy
  rw [permLetters, List.mem_map] at hy
  obtain ⟨x, hx, rfl⟩ := hy
  have := permWord_mem p x hx
  unfold letterB
  rw [Bool.and_eq_true, decide_eq_true_eq, inR_iff]
  omega

end Go.Proofs.YtnjgmhdmjaijgaaGreatDoor

/- Permutations: the given side's test. -/
namespace Go.Proofs.YtnjgmhdmjaijgaaGreatDoor
open Go Go.RowKit

def seenC (n : Nat) (done : List Int) : List Value := (List.range n).map fun (v : Nat) => Value.bool (decide ((v : Int) ∈ done))
theorem seenC_length (n : Nat) (done : List Int) : (seenC n done).length = n := by simp [seenC]
theorem seenC_at {n v : Nat} (done : List Int) (h : v < n) : (seenC n done)[v]? = some (.bool (decide ((v : Int) ∈ done))) := by simp [seenC, h]
theorem seenC_set {n v : Nat} (done : List Int) (h : v < n) : (seenC n done).set v (.bool true) = seenC n (done ++ [(v : Int)]) := by
  apply List.ext_getElem?
  intro i
  rw [List.getElem?_set]
  by_cases hi : i < n
  · rw [seenC_at _ hi]
    by_cases hv : v = i
    · subst hv
      rw [if_pos rfl, if_pos (by rw [seenC_length]; exact h), seenC_at _ h]
      congr 2
      exact (decide_eq_true (List.mem_append.2 (.inr (List.mem_singleton.2 rfl)))).symm
    · rw [if_neg hv, seenC_at _ hi]
      have : ((i : Int) ∈ done ++ [(v : Int)]) ↔ (i : Int) ∈ done := by
        rw [List.mem_append, List.mem_singleton]
        constructor
        · rintro (h | h)
          · exact h
          · omega
        · exact .inl
      simp only [this]
  · rw [if_neg (by omega), List.getElem?_eq_none (by rw [seenC_length]; omega), List.getElem?_eq_none (by rw [seenC_length]; omega)]
theorem seenC_nil (n : Nat) : seenC n [] = List.replicate n (.bool false) := by
  apply List.ext_getElem?
  intro i
  by_cases hi : i < n
  · rw [seenC_at _ hi, List.getElem?_replicate, if_pos hi]; rfl
  · rw [List.getElem?_eq_none (by rw [seenC_length]; omega), List.getElem?_replicate, if_neg hi]
theorem permGo_drop {p : List Int} {k : Nat} {x : Int} (h : p[k]? = some x) (n : Int) : permGo n (p.take k) (p.drop k) = (inR x 0 (n - 1) && !decide (x ∈ p.take k) && permGo n (p.take (k + 1)) (p.drop (k + 1))) := by
  rw [drop_cons h, permGo, ← take_snoc h]

end Go.Proofs.YtnjgmhdmjaijgaaGreatDoor

/- Permutations: the given side's test, walked. -/
namespace Go.Proofs.YtnjgmhdmjaijgaaGreatDoor
open Go Go.RowKit

theorem info_bool : (Tryz.prog.info? 4).map (fun i => (i.zero, i.size, i.bytes)) = some (some (.bool false), 1, 1) := by kernel_rfl

end Go.Proofs.YtnjgmhdmjaijgaaGreatDoor

/- Permutations: the program's test. -/
namespace Go.Proofs.YtnjgmhdmjaijgaaGreatDoor
open Go Go.RowKit

theorem Blk.setAt {w : World} {g : Nat} {t : TypeId} {cs : Array Value} (h : Blk w g t cs) (j : Nat) (u : Value) : Blk (w.setCell ⟨g, j, none⟩ u) g t (cs.setIfInBounds j u) := by
  unfold Blk at h ⊢
  simp [World.setCell, Array.getElem?_modify, h]
end Go.Proofs.YtnjgmhdmjaijgaaGreatDoor

/- The draws: the source. -/
namespace Go.Proofs.YtnjgmhdmjaijgaaGreatDoor
open Go Go.RowKit

theorem drawn_sets (w : World) (a b : Nat) (p q : Addr) (u v : Value) : (((w.drewN a).setCell p u).setCell q v).drewN b = World.drewN ((w.setCell p u).setCell q v) (a + b) := by
  simp [World.drewN, World.setCell, Nat.add_comm, Nat.add_left_comm]
/-- A slice of bytes that is read. -/
def Bytes (w : World) (A : Option Addr) (bs : List Int) : Prop :=
  ∀ k, k < bs.length → ∃ b off x, A = some ⟨b, off, none⟩ ∧ bs[k]? = some x ∧ w.cell? ⟨b, off + k, none⟩ = some (.int .u8 x) ∧ 0 ≤ x ∧ x < 256
theorem Bytes.of_cells {w w' : World} {A : Option Addr} {bs : List Int} (h : Bytes w A bs) (hk : ∀ a v, w.cell? a = some v → w'.cell? a = some v) : Bytes w' A bs :=
  fun k hk' => by
    obtain ⟨b, off, x, hA, hx, hc, h0⟩ := h k hk'
    exact ⟨b, off, x, hA, hx, hk _ _ hc, h0⟩
/-- The source's box. -/
abbrev Src (w : World) (g : Nat) (A : Option Addr) (n c : Nat) (p s : Nat) : Prop := Blk w g 91 #[.slice A n c, .int .i64 (p : Int), .int .u64 (s : Int)]

set_option maxHeartbeats 1000000 in
theorem spec_next_end (g : Nat) (A : Option Addr) (c p s : Nat) (bs : List Int) (w : World) (h : Src w g A bs.length c p s) (hp : bs.length ≤ p) (hp2 : p ≤ 1152921504606846976) :
    Calls Tryz.prog 84 #[.pointer (some ⟨g, 0, none⟩)] w fun e w' => ∃ n, e = .returned (.int .i64 (byteOf (lcg s) : Nat)) ∧ w' = World.drewN ((w.setCell ⟨g, 1, none⟩ (.int .i64 ((p + 1 : Nat) : Int))).setCell ⟨g, 2, none⟩ (.int .u64 (lcg s : Nat))) n := by
  obtain ⟨c0, c1, c2⟩ := h.c3
  have f1 := h.frozen 1
  have f2 := h.frozen 2
  have d1 : decide ((p : Int) < (bs.length : Int)) = false := decide_eq_false (by omega)
  have j1 : IntKind.i64.wrap ((p : Int) + 1) = (p : Int) + 1 := IntWalk.i64_in _ ⟨by omega, by omega⟩
  go_enter Tryz.func84, Tryz.ntmps84
  go_wp2_with (fail)
  go_quiet (fail)
  go_wp2_with (fail)
  go_wp2_with (fail)
  have hu : IntKind.u64.wrap (IntKind.u64.wrap (IntKind.u64.wrap ((s : Int) * 6364136223846793005)) + 1442695040888963407) = ((lcg s : Nat) : Int) := by
    simp only [IntKind.wrap_u64, lin]
    omega
  rw [hu]
  have hL : lcg s < 18446744073709551616 := Nat.mod_lt _ (by decide)
  obtain ⟨L, hLs⟩ : ∃ L, L = lcg s := ⟨_, rfl⟩
  rw [← hLs] at hL ⊢
  have HL := Lib.hid hLs; clear hLs hu
  have d2 : decide ((p : Int) + 1 ≤ (bs.length : Int)) = false := decide_eq_false (by omega)
  go_quiet (fail)
  go_wp2_with (fail)
  have e1 : wrap64 (bits BinOp.and IntKind.u64 ((L : Int) / 1099511627776) 255) = ((byteOf L : Nat) : Int) := by
    have e2 := bits_and_u64_nat (L / 1099511627776) 255 (by omega) (by decide)
    rw [show ((L : Int) / 1099511627776) = ((L / 1099511627776 : Nat) : Int) from rfl]
    rw [show ((255 : Int)) = ((255 : Nat) : Int) from rfl, e2, show (255 : Nat) = 2 ^ 8 - 1 from rfl, Nat.and_two_pow_sub_one_eq_mod]
    unfold byteOf
    exact IntWalk.wrap64_in _ ⟨by omega, by omega⟩
  rw [e1]
  clear e1
  go_ret
  rw [drawn_sets, ← HL.out]
  exact ⟨_, rfl, rfl⟩

set_option maxHeartbeats 1000000 in
theorem spec_next_in (g : Nat) (A : Option Addr) (c p s : Nat) (bs : List Int) (w : World) (h : Src w g A bs.length c p s) (hby : Bytes w A bs) (hp : p < bs.length) (hp2 : p ≤ 1152921504606846976) :
    Calls Tryz.prog 84 #[.pointer (some ⟨g, 0, none⟩)] w fun e w' => ∃ (x : Int) (s' n : Nat), e = .returned (.int .i64 x) ∧ (0 ≤ x ∧ x < 256) ∧ s' < 18446744073709551616 ∧ w' = World.drewN ((w.setCell ⟨g, 1, none⟩ (.int .i64 ((p + 1 : Nat) : Int))).setCell ⟨g, 2, none⟩ (.int .u64 (s' : Int))) n := by
  obtain ⟨c0, c1, c2⟩ := h.c3
  have f1 := h.frozen 1
  have f2 := h.frozen 2
  obtain ⟨b, off, x, rfl, hx, hc, hx0, hx1⟩ := hby p hp
  clear hx
  have d1 : decide ((p : Int) < (bs.length : Int)) = true := decide_eq_true (by omega)
  have j1 : IntKind.i64.wrap ((p : Int) + 1) = (p : Int) + 1 := IntWalk.i64_in _ ⟨by omega, by omega⟩
  have j2 : (0 : Int) ≤ (p : Int) := by omega
  have j3 : (p : Int) < (bs.length : Int) := by omega
  have j4 : IntKind.i64.wrap x = x := IntWalk.i64_in _ ⟨by omega, by omega⟩
  have j5 : IntKind.u64.wrap x = x := IntWalk.u64_in _ ⟨by omega, by omega⟩
  go_enter Tryz.func84, Tryz.ntmps84
  go_wp2_with (fail)
  go_quiet (fail)
  go_wp2_with (fail)
  go_quiet (fail)
  go_wp2_with (fail)
  obtain ⟨s', hs1, hs2⟩ : ∃ s' : Nat, s' < 18446744073709551616 ∧ IntKind.u64.wrap (IntKind.u64.wrap (IntKind.u64.wrap ((s : Int) * 6364136223846793005) + x) + 1442695040888963407) = (s' : Int) := by
    refine ⟨(IntKind.u64.wrap (IntKind.u64.wrap (IntKind.u64.wrap ((s : Int) * 6364136223846793005) + x) + 1442695040888963407)).toNat, ?_, ?_⟩ <;> simp only [IntKind.wrap_u64] <;> omega
  rw [hs2]
  clear hs2
  have d2 : decide ((p : Int) + 1 ≤ (bs.length : Int)) = true := decide_eq_true (by omega)
  go_quiet (fail)
  go_wp2_with (fail)
  rw [drawn_sets]
  go_ret
  exact ⟨x, s', _, rfl, ⟨hx0, hx1⟩, hs1, rfl⟩
/-- What a number costs: while there is code, one of its bytes; then the seed goes on. -/
def Next (len p s : Nat) (x : Int) (s' : Nat) : Prop := (0 ≤ x ∧ x < 256) ∧ s' < 18446744073709551616 ∧ (len ≤ p → s' = lcg s ∧ x = ((byteOf s' : Nat) : Int))
theorem spec_next (g : Nat) (A : Option Addr) (c p s : Nat) (bs : List Int) (w : World) (h : Src w g A bs.length c p s) (hby : Bytes w A bs) (hp2 : p ≤ 1152921504606846976) (_hs : s < 18446744073709551616) :
    Calls Tryz.prog 84 #[.pointer (some ⟨g, 0, none⟩)] w fun e w' => ∃ (x : Int) (s' n : Nat), e = .returned (.int .i64 x) ∧ Next bs.length p s x s' ∧ w' = World.drewN ((w.setCell ⟨g, 1, none⟩ (.int .i64 ((p + 1 : Nat) : Int))).setCell ⟨g, 2, none⟩ (.int .u64 (s' : Int))) n := by
  by_cases hp : p < bs.length
  · refine (spec_next_in g A c p s bs w h hby hp hp2).mono ?_
    rintro e w2 ⟨x, s', n, rfl, hx, hs', rfl⟩
    exact ⟨x, s', n, rfl, ⟨hx, hs', fun hh => by omega⟩, rfl⟩
  · refine (spec_next_end g A c p s bs w h (by omega) hp2).mono ?_
    rintro e w2 ⟨n, rfl, rfl⟩
    have hb : byteOf (lcg s) < 256 := Nat.mod_lt _ (by decide)
    refine ⟨_, lcg s, n, rfl, ⟨⟨by omega, by omega⟩, Nat.mod_lt _ (by decide), fun _ => ⟨rfl, rfl⟩⟩, rfl⟩

/-- The world behind one number: the source's box, one number on. -/
def nextW (w : World) (g p s' n : Nat) : World := World.drewN ((w.setCell ⟨g, 1, none⟩ (.int .i64 ((p + 1 : Nat) : Int))).setCell ⟨g, 2, none⟩ (.int .u64 (s' : Int))) n
theorem nextW_src {w : World} {g p s s' n m c : Nat} {A : Option Addr} (h : Src w g A m c p s) : Src (nextW w g p s' n) g A m c (p + 1) s' := by
  have k := (h.setAt 1 (.int .i64 ((p + 1 : Nat) : Int))).setAt 2 (.int .u64 (s' : Int))
  have e : ((#[Value.slice A m c, .int .i64 (p : Int), .int .u64 (s : Int)] : Array Value).setIfInBounds 1 (.int .i64 ((p + 1 : Nat) : Int))).setIfInBounds 2 (.int .u64 (s' : Int)) = #[.slice A m c, .int .i64 ((p + 1 : Nat) : Int), .int .u64 (s' : Int)] := rfl
  rw [e] at k
  exact k.drewN n
theorem nextW_below (w : World) (g p s' n : Nat) : Below g w (nextW w g p s' n) :=
  below_drewN (((Below.refl _ _).setCell (p := ⟨g, 1, none⟩) (Nat.le_refl _) _).setCell (p := ⟨g, 2, none⟩) (Nat.le_refl _) _) n
theorem nextW_far {w : World} {g p s' n q : Nat} (h : q ≠ g) : (nextW w g p s' n).heap[q]? = w.heap[q]? :=
  (Below.heap_setCell _ _ _ q h).trans (Below.heap_setCell _ _ _ q h)
theorem spec_pick (m : Int) (g : Nat) (A : Option Addr) (c p s : Nat) (bs : List Int) (w : World) (h : Src w g A bs.length c p s) (hby : Bytes w A bs) (hp2 : p ≤ 1152921504606846976) (hs : s < 18446744073709551616) (hm : 2 ≤ m ∧ m ≤ 200) :
    Calls Tryz.prog 56 #[.pointer (some ⟨g, 0, none⟩), .int .i64 m] w fun e w' => ∃ (x : Int) (s' n : Nat), e = .returned (.int .i64 (x % m)) ∧ Next bs.length p s x s' ∧ w' = nextW w g p s' n := by
  obtain ⟨hm2, hm200⟩ := hm
  go_enter Tryz.func56, Tryz.ntmps56
  go_wp2_with (fail)
  refine (spec_next g A c p s bs w h hby hp2 hs).mono ?_
  rintro e w2 ⟨x, s', n, rfl, hx, rfl⟩
  obtain ⟨hx0, hx1⟩ := hx.1
  have HX := Lib.hid hx; clear hx
  have e1 : x.tmod m = x % m := Int.tmod_eq_emod_of_nonneg hx0
  have e2 := Int.emod_nonneg x (show m ≠ 0 by omega)
  have e3 := Int.emod_lt_of_pos x (show 0 < m by omega)
  have hm0 : ¬ m = 0 := by omega
  go_wp2_with (fail)
  go_ret
  exact ⟨x, s', n, rfl, HX.out, rfl⟩

theorem spec_one (m : Int) (g : Nat) (A : Option Addr) (c p s : Nat) (bs : List Int) (w : World) (h : Src w g A bs.length c p s) (hby : Bytes w A bs) (hp2 : p ≤ 1152921504606846976) (hs : s < 18446744073709551616) (hm : 2 ≤ m ∧ m ≤ 200) :
    Calls Tryz.prog 57 #[.pointer (some ⟨g, 0, none⟩), .int .i64 m] w fun e w' => ∃ (b : Bool) (x : Int) (s' n : Nat), e = .returned (.bool b) ∧ Next bs.length p s x s' ∧ w' = nextW w g p s' n := by
  go_enter Tryz.func57, Tryz.ntmps57
  go_wp2_with (fail)
  refine (spec_pick m g A c p s bs w h hby hp2 hs hm).mono ?_
  rintro e w2 ⟨x, s', n, rfl, hx, rfl⟩
  have HX := Lib.hid hx; clear hx
  generalize x % m = y
  go_wp2_with (fail)
  go_ret
  exact ⟨_, x, s', n, rfl, HX.out, rfl⟩

theorem spec_among (l : List Int) (L : Option Addr) (d : Nat) (g : Nat) (A : Option Addr) (c p s : Nat) (bs : List Int) (w : World) (h : Src w g A bs.length c p s) (hby : Bytes w A bs) (hp2 : p ≤ 1152921504606846976) (hs : s < 18446744073709551616) (hL : Ints w L l) (hLg : ∀ a, L = some a → a.block ≠ g) (hm : 2 ≤ l.length ∧ l.length ≤ 200) :
    Calls Tryz.prog 112 #[.pointer (some ⟨g, 0, none⟩), .slice L l.length d] w fun e w' => ∃ (x y : Int) (s' n : Nat), e = .returned (.int .i64 y) ∧ l[(x % (l.length : Int)).toNat]? = some y ∧ Next bs.length p s x s' ∧ w' = nextW w g p s' n := by
  go_enter Tryz.func112, Tryz.ntmps112
  go_wp2_with (fail)
  refine (spec_pick l.length g A c p s bs w h hby hp2 hs ⟨by omega, by omega⟩).mono ?_
  rintro e w2 ⟨x, s', n, rfl, hx, rfl⟩
  have e2 := Int.emod_nonneg x (show (l.length : Int) ≠ 0 by omega)
  have e3 := Int.emod_lt_of_pos x (show 0 < (l.length : Int) by omega)
  obtain ⟨k, hk⟩ := Int.eq_ofNat_of_zero_le e2
  rw [hk] at e3 ⊢
  have HK := Lib.hid hk; clear hk
  obtain ⟨b, off, y, rfl, hc, hy⟩ := hL k (by omega)
  have hb : b ≠ g := hLg _ rfl
  have hc' : (nextW w g p s' n).cell? ⟨b, off + k, none⟩ = some (.int .i64 y) := by
    rw [← hc]
    unfold World.cell?
    rw [nextW_far hb]
  have HX := Lib.hid hx; clear hx hc
  have HY := Lib.hid hy; clear hy
  generalize hW : nextW w g p s' n = W at hc'
  have HW := Lib.hid hW; clear hW
  go_wp2_with (fail)
  go_ret
  exact ⟨x, y, s', n, rfl, by rw [HK.out]; simpa using HY.out, HX.out, HW.out.symm⟩

end Go.Proofs.YtnjgmhdmjaijgaaGreatDoor

/- Arguments of the laws: bytes. -/
namespace Go.Proofs.YtnjgmhdmjaijgaaGreatDoor
open Go.ChangeShapes Go.WideShapes Go.ChangeAt Go.RowKit
open Go.ChangeMaps (open_string shut_string)

section
variable {H : Type} {enc : TypeId × Value → H} {W : World} {base : Nat} {v : Value} {d : DataW H} {p : List MemPlace} {fuel : Nat} {cs : List Value} {x : DataW H × List MemPlace} {b0 : Nat}
theorem trod_bytes (h : DataW.trod enc Tryz.prog W b0 (fun _ => true) true fuel 30 cs = some x) :
    ∃ A c xs, cs = [.slice A xs.length c] ∧ Bytes W A xs ∧ xs.length ≤ 9223372036854775807 := by
  rcases open_ints Tryz.underlying30 Tryz.underlying5 (by kernel_rfl) h with ⟨hcs, _⟩ | ⟨x, n, c, zs, hcs, _, hl, hm, hz, _, hcell, hwz⟩
  · exact ⟨none, 0, [], hcs, fun k hk => by simp at hk, by rw [List.length_nil]; omega⟩
  · have hz' : zs.length = c := by simpa using hz
    have hlen : (zs.take n).length = n := by rw [List.length_take]; omega
    refine ⟨some x, c, zs.take n, by rw [hlen]; exact hcs, fun k hk => ?_, by rw [hlen]; unfold maxLen at hm; omega⟩
    have hk' : k < n := by omega
    have h0 := hcell 0 (by omega)
    rw [show x.add 0 = x by simp [Addr.add]] at h0
    have hx := addr_of_cell h0
    have hw := hwz (zs[k]'(by omega)) (List.getElem_mem _)
    refine ⟨x.block, x.off, zs[k]'(by omega), by rw [← hx], ?_, ?_, ?_⟩
    · rw [List.getElem?_take, if_pos hk', List.getElem?_eq_getElem]
    · have := hcell k (by omega)
      rw [hx, add_form] at this
      rw [this]
      simp [show k < zs.length by omega]
    · have e0 : IntKind.u8.min = 0 := rfl
      have e1 : IntKind.u8.max = 255 := rfl
      simp only [Lit.wf, e0, e1, Bool.and_eq_true, decide_eq_true_eq] at hw
      omega
set_option maxRecDepth 100000 in
theorem open_Bytes (hv : Value.okWide Tryz.prog W .any base 30 v) (h : DataW.Trod enc Tryz.prog W 0 (fun _ => true) true 30 v d p) :
    ∃ A c xs, v = .slice A xs.length c ∧ Bytes W A xs ∧ xs.length ≤ 9223372036854775807 := by
  obtain ⟨A, n, c, rfl⟩ := okWide_slice Tryz.underlying30 hv
  obtain ⟨fuel, hf⟩ := h
  obtain ⟨A', c', xs, hcs, hi, hl⟩ := trod_bytes hf
  simp [Value.cells] at hcs
  obtain ⟨rfl, rfl, rfl⟩ := hcs
  exact ⟨_, _, _, rfl, hi, hl⟩

end
end Go.Proofs.YtnjgmhdmjaijgaaGreatDoor

/- The draws: how long the source may stay. -/
namespace Go.Proofs.YtnjgmhdmjaijgaaGreatDoor
open Go Go.RowKit

theorem least {P : Nat → Prop} (n : Nat) (h : P n) : ∃ m, m ≤ n ∧ P m ∧ ∀ k, k < m → ¬ P k := by
  induction n using Nat.strongRecOn with
  | ind n ih =>
    by_cases hk : ∃ k, k < n ∧ P k
    · obtain ⟨k, hk, hp⟩ := hk
      obtain ⟨m, hm, h1, h2⟩ := ih k hk hp
      exact ⟨m, by omega, h1, h2⟩
    · exact ⟨n, Nat.le_refl _, h, fun k hk' hp => hk ⟨k, hk', hp⟩⟩
theorem steps_ex (s : Nat) : ∃ m : Nat, m ≤ 2 ^ 40 ∧ byteOf (iterN lcg m (lcg s)) % 14 ≠ 5 ∧ ∀ k, k < m → ¬ byteOf (iterN lcg k (lcg s)) % 14 ≠ 5 := by
  obtain ⟨n, hn, h⟩ := leaves (lcg s)
  obtain ⟨m, hm, h1, h2⟩ := least (P := fun n => byteOf (iterN lcg n (lcg s)) % 14 ≠ 5) n h
  exact ⟨m, Nat.le_trans hm hn, h1, h2⟩
/-- How many numbers are drawn, from a seed, until one is not the fifth of fourteen. -/
noncomputable def stepsOf (s : Nat) : Nat := Classical.choose (steps_ex s)
theorem stepsOf_spec (s : Nat) : stepsOf s ≤ 1099511627776 ∧ byteOf (iterN lcg (stepsOf s) (lcg s)) % 14 ≠ 5 ∧ ∀ k, k < stepsOf s → byteOf (iterN lcg k (lcg s)) % 14 = 5 := by
  have h := Classical.choose_spec (steps_ex s)
  exact ⟨Nat.le_trans h.1 (Nat.le_of_eq pow_40), h.2.1, fun k hk => by have := h.2.2 k hk; omega⟩
theorem stepsOf_next {s : Nat} (h : byteOf (lcg s) % 14 = 5) : stepsOf (lcg s) < stepsOf s := by
  obtain ⟨_, h1, h2⟩ := stepsOf_spec s
  obtain ⟨_, h3, h4⟩ := stepsOf_spec (lcg s)
  have h0 : stepsOf s ≠ 0 := by
    intro e
    rw [e, iterN_zero] at h1
    exact h1 h
  obtain ⟨m, hm⟩ : ∃ m, stepsOf s = m + 1 := ⟨stepsOf s - 1, by omega⟩
  rw [hm, iterN_succ] at h1
  rw [hm]
  by_cases hlt : m < stepsOf (lcg s)
  · exact absurd (h4 m hlt) h1
  · omega
/-- What is left to draw: bytes of the code, then steps of the seed. -/
noncomputable def lowOf (len p s : Nat) : Nat := if p < len then (len - p) + 2199023255552 else stepsOf s
theorem lowOf_le (len p s : Nat) : lowOf len p s ≤ len + 2199023255552 := by
  unfold lowOf
  have := (stepsOf_spec s).1
  split <;> omega
theorem lowOf_any {len p s : Nat} {s' : Nat} : lowOf len (p + 1) s' ≤ lowOf len p s + 1099511627776 := by
  unfold lowOf
  have := (stepsOf_spec s').1
  split <;> split <;> omega
theorem lowOf_stay {len p s : Nat} {x : Int} {s' : Nat} (h : Next len p s x s') (h5 : x % 14 = 5) : lowOf len (p + 1) s' < lowOf len p s := by
  unfold lowOf
  have h1 := (stepsOf_spec s').1
  by_cases hp : p < len
  · clear h h5
    rw [if_pos hp]
    generalize stepsOf s' = y at h1 ⊢
    split <;> omega
  · have e := h.2.2 (by omega)
    have e1 := e.1
    have e2 := e.2
    rw [e1] at e2 ⊢
    clear e h e1 h1
    have h2 : byteOf (lcg s) % 14 = 5 := by
      generalize byteOf (lcg s) = y at e2 ⊢
      omega
    have h3 := stepsOf_next h2
    rw [if_neg hp, if_neg (by omega)]
    exact h3

end Go.Proofs.YtnjgmhdmjaijgaaGreatDoor
