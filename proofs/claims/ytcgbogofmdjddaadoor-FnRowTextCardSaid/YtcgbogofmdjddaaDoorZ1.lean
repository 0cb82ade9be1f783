/- Steps of the proof, joined from several texts: Lib P O A R M II. -/
import Derived.Test.YtcgbogofmdjddaaDoorRows
import Derived.WalkKit
import Derived.WalkSpells
import Derived.BigQuiet
import Derived.Deep.QuietTactic
import Derived.Deep.RegionHeld3
import Derived.Lib.Hide
import Derived.ProofKit
import Derived.OpenShut
import Derived.ShutString
import Derived.ChangeOld
import Derived.Lib.SmallJoins
import Derived.Deep.Slices

/- Words for memory that every text of this seat uses: a slice of numbers that is read, a slice that a call owns, and what a call leaves as it was. -/
namespace Go.Proofs.YtcgbogofmdjddaaDoor
open Go.RowKit

def I (n : Int) : Value := .int .i64 n

/-- The slice at A, with these numbers, can be read. -/
def Ints (w : World) (A : Option Addr) (xs : List Int) : Prop :=
  ∀ k, k < xs.length → ∃ b off x, A = some ⟨b, off, none⟩ ∧ w.cell? ⟨b, off + k, none⟩ = some (.int .i64 x) ∧ xs[k]? = some x

theorem cell_lt {w : World} {a : Addr} {v : Value} (h : w.cell? a = some v) : a.block < w.heap.size := World.block_lt_of_cell? w a h

theorem Ints.of_cells {w w' : World} {A : Option Addr} {xs : List Int} (h : Ints w A xs) (hk : ∀ a v, w.cell? a = some v → w'.cell? a = some v) : Ints w' A xs :=
  fun k hk' => by
    obtain ⟨b, off, x, hA, hc, hx⟩ := h k hk'
    exact ⟨b, off, x, hA, hk _ _ hc, hx⟩

theorem cells_below {w w' : World} (hb : Below w.heap.size w w') : ∀ a v, w.cell? a = some v → w'.cell? a = some v :=
  fun a _ h => (hb.cell (p := a) (cell_lt h)).trans h

theorem cells_drewN {w : World} {n : Nat} : ∀ a v, w.cell? a = some v → (w.drewN n).cell? a = some v := fun _ _ h => h

theorem Ints.below {w w' : World} {A : Option Addr} {xs : List Int} (h : Ints w A xs) (hb : Below w.heap.size w w') : Ints w' A xs := h.of_cells (cells_below hb)
theorem Ints.drewN {w : World} {A : Option Addr} {xs : List Int} (h : Ints w A xs) (n : Nat) : Ints (w.drewN n) A xs := h
theorem Ints.nil {w : World} {A : Option Addr} : Ints w A [] := fun k hk => by simp at hk

theorem below_drewN {B : Nat} {w w' : World} (h : Below B w w') (n : Nat) : Below B w (w'.drewN n) := h.trans ⟨rfl, rfl, rfl, Nat.le_refl _, fun _ _ => rfl⟩

theorem undrew {w w' : World} (h : Below w.drew.heap.size w.drew w') : Below w.heap.size w w' := ⟨h.os, h.tape, h.output, h.size, h.block⟩

/-- Only blocks from lo up to hi may have changed. -/
structure Upd (lo hi : Nat) (w w' : World) : Prop where
  os : w'.os = w.os
  tape : w'.tape = w.tape
  output : w'.output = w.output
  size : w.heap.size ≤ w'.heap.size
  block : ∀ k, k < w.heap.size → (k < lo ∨ hi ≤ k) → w'.heap[k]? = w.heap[k]?

theorem Upd.refl (lo hi : Nat) (w : World) : Upd lo hi w w := ⟨rfl, rfl, rfl, Nat.le_refl _, fun _ _ _ => rfl⟩
theorem Upd.trans {lo hi : Nat} {a b c : World} (h : Upd lo hi a b) (k : Upd lo hi b c) : Upd lo hi a c :=
  ⟨k.os.trans h.os, k.tape.trans h.tape, k.output.trans h.output, Nat.le_trans h.size k.size,
   fun i hi' hj => (k.block i (Nat.lt_of_lt_of_le hi' h.size) hj).trans (h.block i hi' hj)⟩
theorem Upd.below {lo hi : Nat} {a b : World} (h : Upd lo hi a b) (hlo : lo ≤ a.heap.size) : Below lo a b :=
  ⟨h.os, h.tape, h.output, h.size, fun i hi' => h.block i (by omega) (.inl hi')⟩
theorem Upd.mono {lo hi lo' hi' : Nat} {a b : World} (h : Upd lo hi a b) (h1 : lo' ≤ lo) (h2 : hi ≤ hi') : Upd lo' hi' a b :=
  ⟨h.os, h.tape, h.output, h.size, fun i hi'' hj => h.block i hi'' (by omega)⟩
theorem Upd.drewN {lo hi : Nat} {a b : World} (h : Upd lo hi a b) (n : Nat) : Upd lo hi a (b.drewN n) :=
  ⟨h.os, h.tape, h.output, h.size, h.block⟩
theorem Upd.grown {lo hi : Nat} {a b c : World} {row : Option Nat} (h : Upd lo hi a b) (hg : b.grownBy c row) (hr : ∀ k, row = some k → lo ≤ k ∧ k < hi) : Upd lo hi a c :=
  h.trans ⟨hg.os, hg.tape, hg.output, hg.size, fun k hk hj => hg.block k hk (fun e => by have := hr k e.symm; omega)⟩
theorem Upd.setCell {lo hi : Nat} {a b : World} (h : Upd lo hi a b) {p : Addr} (h1 : lo ≤ p.block) (h2 : p.block < hi) (u : Value) : Upd lo hi a (b.setCell p u) :=
  h.trans ⟨rfl, rfl, rfl, by simp, fun k _ hj => Below.heap_setCell b p u k (by omega)⟩
theorem upd_of_below {B : Nat} {w w' : World} (h : Below B w w') (hB : w.heap.size ≤ B) (lo hi : Nat) : Upd lo hi w w' :=
  ⟨h.os, h.tape, h.output, h.size, fun k hk _ => h.block k (by omega)⟩

/-- The slice at A is the call's own, at the head of a block from lo to hi; it holds these cells (each element has 'sz' cells of the type e). -/
structure OwnC (w : World) (lo hi : Nat) (e : TypeId) (sz : Nat) (A : Option Addr) (n c : Nat) (cs : List Value) : Prop where
  own : w.ownsRow lo e sz (.slice A n c) n cs
  lt : ∀ a, A = some a → a.block < hi

section
variable {w w' : World} {lo hi : Nat} {e : TypeId} {sz : Nat} {A : Option Addr} {n c : Nat} {cs : List Value}
theorem OwnC.nil (w : World) (lo hi : Nat) (e : TypeId) (sz : Nat) : OwnC w lo hi e sz none 0 0 [] := ⟨World.ownsRow_nil _ _ _ _, by simp⟩
theorem OwnC.len (h : OwnC w lo hi e sz A n c cs) : cs.length = n * sz := h.own.1
theorem OwnC.form (h : OwnC w lo hi e sz A n c cs) : (A = none ∧ n = 0 ∧ c = 0 ∧ cs = []) ∨ ∃ g cur, A = some ⟨g, 0, none⟩ ∧ lo ≤ g ∧ g < hi ∧ w.heap[g]? = some (.cells cur e (0, 0)) ∧ n ≤ c ∧ c ≤ maxLen ∧ cur.size = c * sz ∧ cur.toList.take (n * sz) = cs := by
  obtain ⟨⟨h1, h2⟩, h3⟩ := h
  rcases h2 with ⟨h2, h4⟩ | ⟨g, cap, cur, h4, h5, h6, h7, h8, h9, h10⟩
  · injection h2 with h2 h5 h6
    subst h2 h4 h6
    exact .inl ⟨rfl, rfl, rfl, List.eq_nil_of_length_eq_zero (by simpa using h1)⟩
  · injection h4 with h4 _ h11
    subst h4 h11
    exact .inr ⟨g, cur, rfl, h5, h3 _ rfl, h6, h7, h8, h9, h10⟩
theorem OwnC.cell (h : OwnC w lo hi e sz A n c cs) {j : Nat} (hj : j < cs.length) : ∃ g, A = some ⟨g, 0, none⟩ ∧ lo ≤ g ∧ g < hi ∧ w.cell? ⟨g, j, none⟩ = some cs[j] ∧ w.frozen? ⟨g, j, none⟩ = false := by
  rcases h.form with ⟨_, _, _, rfl⟩ | ⟨g, cur, rfl, h1, h2, h3, h4, h5, h6, h7⟩
  · simp at hj
  · refine ⟨g, rfl, h1, h2, ?_, frozen_of_row w g j cur e h3⟩
    have hl : j < n * sz := by rw [← h.len]; exact hj
    have := h.own.cellAt j hl
    rw [this, List.getElem?_eq_getElem hj]
theorem OwnC.keep (h : OwnC w lo hi e sz A n c cs) (hk : ∀ k, lo ≤ k → k < hi → k < w.heap.size → w'.heap[k]? = w.heap[k]?) : OwnC w' lo hi e sz A n c cs := by
  refine ⟨⟨h.own.1, ?_⟩, h.lt⟩
  rcases h.own.2 with h2 | ⟨g, cap, cur, h4, h5, h6, h7⟩
  · exact .inl h2
  · injection h4 with h4 hn h11
    subst h4 h11
    have hlt : g < hi := h.lt _ rfl
    exact .inr ⟨g, c, cur, rfl, h5, by rw [hk g h5 hlt (Array.getElem?_eq_some_iff.1 h6).1]; exact h6, h7⟩
theorem OwnC.below {B : Nat} (h : OwnC w lo hi e sz A n c cs) (hb : Below B w w') (hB : hi ≤ B) : OwnC w' lo hi e sz A n c cs :=
  h.keep fun k _ h2 _ => hb.block k (by omega)
theorem OwnC.upd {l2 h2 : Nat} (h : OwnC w lo hi e sz A n c cs) (hb : Upd l2 h2 w w') (hB : hi ≤ l2 ∨ h2 ≤ lo) : OwnC w' lo hi e sz A n c cs :=
  h.keep fun k h3 h4 h5 => hb.block k h5 (by omega)
theorem OwnC.mono {lo' hi' : Nat} (h : OwnC w lo hi e sz A n c cs) (h1 : lo' ≤ lo) (h2 : hi ≤ hi') : OwnC w lo' hi' e sz A n c cs := by
  refine ⟨⟨h.own.1, ?_⟩, fun a ha => Nat.lt_of_lt_of_le (h.lt a ha) h2⟩
  rcases h.own.2 with h3 | ⟨g, cap, cur, h4, h5, h6⟩
  · exact .inl h3
  · exact .inr ⟨g, cap, cur, h4, by omega, h6⟩
theorem OwnC.of_own (h : w.ownsRow lo e sz (.slice A n c) n cs) (hhi : w.heap.size ≤ hi) : OwnC w lo hi e sz A n c cs :=
  ⟨h, fun a ha => by subst ha; have := h.lt a.block rfl; omega⟩
theorem OwnC.far (h : OwnC w lo hi e sz A n c cs) {p : Addr} (hp : p.block < lo ∨ hi ≤ p.block) (u : Value) : OwnC (w.setCell p u) lo hi e sz A n c cs :=
  h.keep fun k h2 h3 _ => Below.heap_setCell w p u k (by omega)
theorem OwnC.alloc (h : OwnC w lo hi e sz A n c cs) (o : Obj) : OwnC (w.alloc o) lo hi e sz A n c cs :=
  h.keep fun k _ _ h4 => Below.heap_alloc w o k h4
theorem OwnC.drewN (h : OwnC w lo hi e sz A n c cs) (k : Nat) : OwnC (w.drewN k) lo hi e sz A n c cs := h.keep fun _ _ _ _ => rfl
/-- A store into the row. -/
theorem OwnC.store {g j : Nat} (h : OwnC w lo hi e sz (some ⟨g, 0, none⟩) n c cs) (u : Value) :
    OwnC (w.setCell ⟨g, j, none⟩ u) lo hi e sz (some ⟨g, 0, none⟩) n c (cs.set j u) ∧ w.grownBy (w.setCell ⟨g, j, none⟩ u) (some g) :=
  ⟨⟨(h.own.stored j u).1, h.lt⟩, (h.own.stored j u).2⟩
end

/-- A slice of numbers that is the call's own. -/
abbrev OwnI (w : World) (lo hi : Nat) (A : Option Addr) (c : Nat) (xs : List Int) : Prop := OwnC w lo hi 2 1 A xs.length c (xs.map (Value.int .i64))

theorem OwnC.ints {w : World} {lo hi n : Nat} {A : Option Addr} {c : Nat} {xs : List Int} (h : OwnC w lo hi 2 1 A n c (xs.map (Value.int .i64))) : Ints w A xs := by
  intro k hk
  obtain ⟨g, hA, _, _, hc, _⟩ := h.cell (j := k) (by simpa using hk)
  exact ⟨g, 0, xs[k], hA, by simp only [Nat.zero_add, hc]; simp, List.getElem?_eq_getElem hk⟩

theorem info_int64 : (Tryd.prog.info? 2).map (fun i => (i.zero, i.size, i.bytes)) = some (some (.int .i64 0), 1, 8) := by kernel_rfl

theorem ret_bool {a b : Bool} (h : a = b) : Ending.returned (.bool a) = .returned (.bool b) := by rw [h]
theorem ret_int {k : IntKind} {a b : Int} (h : a = b) : Ending.returned (.int k a) = .returned (.int k b) := by rw [h]
theorem int_eq {k : IntKind} {a b : Int} (h : a = b) : Value.int k a = .int k b := by rw [h]
theorem bool_eq {a b : Bool} (h : a = b) : Value.bool a = .bool b := by rw [h]

theorem drew2 (w : World) (n k : Nat) : ∃ m, (w.drewN n).drewN k = w.drewN m := ⟨n + k, by simp⟩
theorem take_snoc {α : Type} {xs : List α} {k : Nat} {x : α} (h : xs[k]? = some x) : xs.take (k + 1) = xs.take k ++ [x] := by
  rw [List.take_add_one, h]; rfl
theorem take_all {α : Type} {xs : List α} {k : Nat} (h : xs.length ≤ k) : xs.take k = xs := List.take_of_length_le h
theorem take_set_succ {α : Type} (cs : List α) (k : Nat) (u : α) (hk : k < cs.length) : (cs.set k u).take (k + 1) = cs.take k ++ [u] := by
  rw [List.take_succ_eq_append_getElem (by simpa using hk), List.take_set_of_le (Nat.le_refl k)]
  simp
theorem ne_of_getElem? {α : Type} {xs ys : List α} {k : Nat} {x y : α} (h : xs[k]? = some x) (h' : ys[k]? = some y) (hne : x ≠ y) : xs ≠ ys := by
  rintro rfl; rw [h] at h'; exact hne (by injection h')
theorem any_true_at {α : Type} {xs : List α} {k : Nat} {x : α} {p : α → Bool} (h : xs[k]? = some x) (hp : p x = true) : xs.any p = true :=
  List.any_eq_true.2 ⟨x, List.mem_of_getElem? h, hp⟩
theorem all_false_at {α : Type} {xs : List α} {k : Nat} {x : α} {p : α → Bool} (h : xs[k]? = some x) (hp : p x = false) : xs.all p = false :=
  List.all_eq_false.2 ⟨x, List.mem_of_getElem? h, by simp [hp]⟩

/-- Block g holds just these cells. -/
def Blk (w : World) (g : Nat) (t : TypeId) (cs : Array Value) : Prop := w.heap[g]? = some (.cells cs t (0, 0))
section
variable {w w' : World} {g : Nat} {t : TypeId} {cs : Array Value}
theorem Blk.lt (h : Blk w g t cs) : g < w.heap.size := by
  rcases Nat.lt_or_ge g w.heap.size with hlt | hge
  · exact hlt
  · unfold Blk at h; rw [Array.getElem?_eq_none hge] at h; cases h
theorem Blk.cell (h : Blk w g t cs) (i : Nat) : w.cell? ⟨g, i, none⟩ = cs[i]? := cell_of_row w g i cs t (0, 0) h
theorem Blk.frozen (h : Blk w g t cs) (i : Nat) : w.frozen? ⟨g, i, none⟩ = false := by
  unfold Blk at h
  simp [World.frozen?, h]
theorem Blk.new (w : World) (t : TypeId) (cs : Array Value) : Blk (w.alloc (.cells cs t)) w.heap.size t cs := heap_alloc_new w _
theorem Blk.alloc (h : Blk w g t cs) (o : Obj) : Blk (w.alloc o) g t cs := (Below.heap_alloc w o g h.lt).trans h
theorem Blk.drewN (h : Blk w g t cs) (n : Nat) : Blk (w.drewN n) g t cs := h
theorem Blk.far (h : Blk w g t cs) {p : Addr} (hp : g ≠ p.block) (u : Value) : Blk (w.setCell p u) g t cs := (Below.heap_setCell w p u g hp).trans h
theorem Blk.below {B : Nat} (h : Blk w g t cs) (hb : Below B w w') (hg : g < B) : Blk w' g t cs := (hb.block g hg).trans h
theorem Blk.upd {lo hi : Nat} (h : Blk w g t cs) (hb : Upd lo hi w w') (hg : g < lo ∨ hi ≤ g) : Blk w' g t cs := (hb.block g h.lt hg).trans h
theorem Blk.c1 {a : Value} (h : Blk w g t #[a]) : w.cell? ⟨g, 0, none⟩ = some a := h.cell 0
theorem Blk.c2 {a b : Value} (h : Blk w g t #[a, b]) : w.cell? ⟨g, 0, none⟩ = some a ∧ w.cell? ⟨g, 1, none⟩ = some b := ⟨h.cell 0, h.cell 1⟩
theorem Blk.c3 {a b c : Value} (h : Blk w g t #[a, b, c]) : w.cell? ⟨g, 0, none⟩ = some a ∧ w.cell? ⟨g, 1, none⟩ = some b ∧ w.cell? ⟨g, 2, none⟩ = some c := ⟨h.cell 0, h.cell 1, h.cell 2⟩
end
theorem take_set3 {α : Type} (cs : List α) (k m : Nat) (hm : m = k + 3) (hk : m ≤ cs.length) (u0 u1 u2 : α) : ((((cs.set (k) u0).set (k + 1) u1).set (k + 2) u2)).take m = cs.take k ++ [u0, u1, u2] := by
  subst hm
  rw [take_set_succ _ (k + 2) _ (by simp only [List.length_set]; omega), take_set_succ _ (k + 1) _ (by simp only [List.length_set]; omega), take_set_succ _ k _ (by omega)]
  simp
theorem take_set4 {α : Type} (cs : List α) (k m : Nat) (hm : m = k + 4) (hk : m ≤ cs.length) (u0 u1 u2 u3 : α) : (((((cs.set (k) u0).set (k + 1) u1).set (k + 2) u2).set (k + 3) u3)).take m = cs.take k ++ [u0, u1, u2, u3] := by
  subst hm
  rw [take_set_succ _ (k + 3) _ (by simp only [List.length_set]; omega), take_set_succ _ (k + 2) _ (by simp only [List.length_set]; omega), take_set_succ _ (k + 1) _ (by simp only [List.length_set]; omega), take_set_succ _ k _ (by omega)]
  simp
theorem take_set6 {α : Type} (cs : List α) (k m : Nat) (hm : m = k + 6) (hk : m ≤ cs.length) (u0 u1 u2 u3 u4 u5 : α) : (((((((cs.set (k) u0).set (k + 1) u1).set (k + 2) u2).set (k + 3) u3).set (k + 4) u4).set (k + 5) u5)).take m = cs.take k ++ [u0, u1, u2, u3, u4, u5] := by
  subst hm
  rw [take_set_succ _ (k + 5) _ (by simp only [List.length_set]; omega), take_set_succ _ (k + 4) _ (by simp only [List.length_set]; omega), take_set_succ _ (k + 3) _ (by simp only [List.length_set]; omega), take_set_succ _ (k + 2) _ (by simp only [List.length_set]; omega), take_set_succ _ (k + 1) _ (by simp only [List.length_set]; omega), take_set_succ _ k _ (by omega)]
  simp

end Go.Proofs.YtcgbogofmdjddaaDoor

/- The plain functions that the program's functions compute, in Lean, with no program in sight. -/
namespace Go.Proofs.YtcgbogofmdjddaaDoor
open Go.RowKit

def inR (n lo hi : Int) : Bool := decide (lo ≤ n) && decide (n ≤ hi)
theorem inR_iff {n lo hi : Int} : inR n lo hi = true ↔ lo ≤ n ∧ n ≤ hi := by simp [inR]
def szLeft (l n : Int) : Int := if l < n then -1 else l - n
def sum64 (xs : List Int) : Int := xs.foldl (fun s x => wrap64 (s + x)) 0
theorem sum64_snoc (xs : List Int) (x : Int) : sum64 (xs ++ [x]) = wrap64 (sum64 xs + x) := by simp [sum64]
def isStitchB (k : Int) : Bool := inR k 1 11
def stacksB (xs : List Int) : Bool := xs.all (inR · 1 4) && decide (xs.length ≤ 8)
def sizesB (xs : List Int) : Bool := decide (0 < xs.length) && stacksB xs && decide (sum64 xs ≤ 12)
def stitchesB (xs : List Int) : Bool := xs.all isStitchB && decide (xs.length ≤ 16)
def dirB (d : Int) : Bool := d == 1 || d == -1
def carrierB (c : Int) : Bool := inR c 1 4
/-- The index of the first number with p, or -1. -/
def indexB (p : Int → Bool) : List Int → Int → Int
  | [], _ => -1
  | x :: xs, k => if p x then k else indexB p xs (k + 1)
/-- The call hands back a number with P. -/
def AnyInt (P : Int → Prop) (e : Ending) : Prop := ∃ k, e = .returned (.int .i64 k) ∧ P k
theorem ret_ib {p : Int × Bool} {a : Int} {b : Bool} (h : p = (a, b)) : Ending.returned (.tuple #[.int .i64 a, .bool b]) = .returned (.tuple #[.int .i64 p.1, .bool p.2]) := by rw [h]
def firstOfP (xs : List Int) (col : Int) : Int × Bool := if sizesB xs && inR col 0 ((xs.length : Int) - 1) then (sum64 (xs.take col.toNat), true) else (0, false)
def colAt : List Int → Int → Int → Int × Bool
  | [], _, _ => (0, false)
  | x :: xs, s, i => if s < x then (i, true) else colAt xs (wrap64 (s - x)) (i + 1)
def columnAtP (xs : List Int) (s : Int) : Int × Bool := if !sizesB xs || decide (s < 0) then (0, false) else colAt xs s 0
theorem drop_cons {α : Type} {xs : List α} {k : Nat} {x : α} (h : xs[k]? = some x) : xs.drop k = x :: xs.drop (k + 1) := by
  obtain ⟨hk, rfl⟩ := List.getElem?_eq_some_iff.1 h
  exact List.drop_eq_getElem_cons hk
theorem drop_all {α : Type} {xs : List α} {k : Nat} (h : xs.length ≤ k) : xs.drop k = [] := List.drop_eq_nil_of_le h
def rowB (d r : Int) (xs : List Int) : Bool := dirB d && carrierB r && stitchesB xs

end Go.Proofs.YtcgbogofmdjddaaDoor

/- Arguments of the laws, opened. -/
namespace Go.Proofs.YtcgbogofmdjddaaDoor
open Go.ChangeShapes Go.WideShapes Go.ChangeAt Go.RowKit
open Go.ChangeMaps (open_string shut_string)

theorem own : ownKnob Tryd.prog.godebug = none := by kernel_rfl
theorem laidOut : laidOutB Tryd.prog = true := by kernel_rfl

theorem addr_of_cell {w : World} {x : Addr} {v : Value} (h : w.cell? x = some v) : x = ⟨x.block, x.off, none⟩ := by
  obtain ⟨b, o, s⟩ := x
  cases s with
  | none => rfl
  | some s =>
    unfold World.cell? at h
    split at h <;> simp at h

theorem add_form {b o : Nat} (i : Nat) : (⟨b, o, none⟩ : Addr).add i = ⟨b, o + i, none⟩ := by
  unfold Addr.add
  split <;> simp_all

theorem one_cell {cs : List Value} {i : Nat} {v : Value} (h : (cs.drop i).take 1 = [v]) : cs[i]? = some v := by
  have := congrArg (fun l => l[0]?) h
  simpa [List.getElem?_take, List.getElem?_drop] using this

section
variable {H : Type} {enc : TypeId × Value → H} {W : World} {base : Nat} {v : Value} {d : DataW H} {p : List MemPlace} {fuel : Nat} {cs : List Value} {x : DataW H × List MemPlace} {b0 : Nat}
theorem trod_ints (h : DataW.trod enc Tryd.prog W b0 (fun _ => true) true fuel 35 cs = some x) :
    ∃ A c xs, cs = [.slice A xs.length c] ∧ Ints W A xs ∧ xs.length ≤ 9223372036854775807 := by
  rcases open_ints Tryd.underlying35 Tryd.underlying2 (by kernel_rfl) h with ⟨hcs, _⟩ | ⟨x, n, c, zs, hcs, _, hl, hm, hz, _, hcell, hwz⟩
  · exact ⟨none, 0, [], hcs, Ints.nil, by rw [List.length_nil]; omega⟩
  · have hz' : zs.length = c := by simpa using hz
    have hlen : (zs.take n).length = n := by rw [List.length_take]; omega
    refine ⟨some x, c, zs.take n, by rw [hlen]; exact hcs, fun k hk => ?_, by rw [hlen]; unfold maxLen at hm; omega⟩
    have hk' : k < n := by omega
    have h0 := hcell 0 (by omega)
    rw [show x.add 0 = x by simp [Addr.add]] at h0
    have hx := addr_of_cell h0
    refine ⟨x.block, x.off, zs[k]'(by omega), by rw [← hx], ?_, ?_⟩
    · have := hcell k (by omega)
      rw [hx, add_form] at this
      rw [this]
      simp [show k < zs.length by omega]
    · rw [List.getElem?_take, if_pos hk', List.getElem?_eq_getElem]
set_option maxRecDepth 100000 in
theorem open_Ints (hv : Value.okWide Tryd.prog W .any base 35 v) (h : DataW.Trod enc Tryd.prog W 0 (fun _ => true) true 35 v d p) :
    ∃ A c xs, v = .slice A xs.length c ∧ Ints W A xs ∧ xs.length ≤ 9223372036854775807 := by
  obtain ⟨A, n, c, rfl⟩ := okWide_slice Tryd.underlying35 hv
  obtain ⟨fuel, hf⟩ := h
  obtain ⟨A', c', xs, hcs, hi, hl⟩ := trod_ints hf
  simp [Value.cells] at hcs
  obtain ⟨rfl, rfl, rfl⟩ := hcs
  exact ⟨_, _, _, rfl, hi, hl⟩
set_option maxRecDepth 100000 in
theorem open_Str (hv : Value.okWide Tryd.prog W .any base 9 v) (h : DataW.Trod enc Tryd.prog W 0 (fun _ => true) true 9 v d p) : ∃ s : ByteArray, v = .string s ∧ s.size ≤ 9223372036854775807 := by
  obtain ⟨s, hs, _, _, hl⟩ := open_string Tryd.underlying9 hv h
  exact ⟨s, hs, hl⟩

end

end Go.Proofs.YtcgbogofmdjddaaDoor

/- The helpers of the laws on slices of numbers. -/
namespace Go.Proofs.YtcgbogofmdjddaaDoor
open Go.RowKit

set_option maxHeartbeats 400000 in
theorem laws_toInt64S (A : Option Addr) (c : Nat) (xs : List Int) (w : World) (h : Ints w A xs) (hl : xs.length ≤ 1048576) :
    Calls Tryd.prog 20 #[.slice A xs.length c] w fun e w' => ∃ A' c', e = .returned (.slice A' xs.length c') ∧ OwnI w' w.heap.size w'.heap.size A' c' xs ∧ Below w.heap.size w w' := by
  obtain ⟨i0, hi0, hz0, hz1, hz2⟩ := info_parts info_int64
  have hlen : xs.length ≤ 9223372036854775807 := by omega
  go_enter Tryd.func20, Tryd.ntmps20
  go_wp2_with (refine wpList_make_full _ rfl (.tmp 6) (.tmp 6) _ rfl w.heap.size 2 i0 _ 1 Tryd.underlying35 hi0 hz0 hz1 .i64 .i64 _ _ xs.length rfl rfl rfl rfl (by rw [hz2]; omega) (by unfold maxLen; omega) (Nat.le_refl _) ?_; intro w1 hown hg)
  have hb1 : Below w.heap.size w w1 := (Below.refl _ _).grown hg (Nat.le_refl _) (by simp)
  go_loopw [4] (fun i wr => ∃ (k : Nat) (cs : List Value), k ≤ xs.length ∧ i = .int .i64 k ∧ wr.ownsRow w.heap.size 2 1 (.slice (some ⟨w.heap.size, 0, none⟩) xs.length xs.length) xs.length cs ∧ cs.take k = (xs.take k).map (Value.int .i64) ∧ Below w.heap.size w wr) (fun i _ => xs.length - (intOf i).toNat)
  case atStart => exact ⟨0, _, Nat.zero_le _, rfl, hown, by simp, hb1⟩
  case round =>
    clear hown hg hb1
    obtain ⟨k, cs, hk, rfl, hown, htk, hb⟩ := hrel
    have hcl : cs.length = xs.length := by simpa using hown.1
    have HT := Lib.hid htk; clear htk
    have HC := Lib.hid hcl; clear hcl
    by_cases hlt : k < xs.length
    · obtain ⟨b, off, x, rfl, hc, hx⟩ := h k hlt
      have hc' := cells_below hb _ _ hc
      clear hc
      have hcell : wr.cell? ⟨w.heap.size, k, none⟩ = some (cs[k]'(by rw [HC.out]; exact hlt)) := by
        rw [hown.cellAt k (by omega), List.getElem?_eq_getElem]
      have hfz := hown.frozenAt k
      go_wp2
      go_roundw
      case rel =>
        refine ⟨k + 1, cs.set k (.int .i64 x), by omega, by go_num, (hown.stored k _).1, ?_, hb.setCell (p := ⟨w.heap.size, k, none⟩) (Nat.le_refl _) _⟩
        rw [take_set_succ _ _ _ (by rw [HC.out]; exact hlt), HT.out, take_snoc hx]
        simp
      case measure => simp [intOf]; omega
    · go_wp2
      go_ret
      have : k = xs.length := by omega
      subst this
      have e : cs = xs.map (Value.int .i64) := by
        have := HT.out
        rwa [take_all (by rw [HC.out]; exact Nat.le_refl _), take_all (Nat.le_refl _)] at this
      subst e
      exact ⟨_, _, rfl, OwnC.of_own hown (Nat.le_refl _), hb⟩

theorem laws_eqInt64S (A B : Option Addr) (c d : Nat) (xs ys : List Int) (w : World) (h : Ints w A xs) (h' : Ints w B ys) (hl : xs.length ≤ 9223372036854775807) (_hl' : ys.length ≤ 9223372036854775807) :
    Calls Tryd.prog 22 #[.slice A xs.length c, .slice B ys.length d] w fun e w' => e = .returned (.bool (decide (xs = ys))) ∧ ∃ n, w' = w.drewN n := by
  by_cases hle : xs.length = ys.length
  · have HL := Lib.hid hle
    have hle' : ((xs.length : Int) != (ys.length : Int)) = false := by simp [hle]
    clear hle
    go_enter Tryd.func22, Tryd.ntmps22
    go_wp2
    go_loopw [5] (fun i wr => ∃ (k : Nat), k ≤ xs.length ∧ i = .int .i64 k ∧ xs.take k = ys.take k ∧ ∃ n, wr = w.drewN n) (fun i _ => xs.length - (intOf i).toNat)
    case atStart => exact ⟨0, Nat.zero_le _, rfl, rfl, 0, rfl⟩
    case round =>
      obtain ⟨k, hk, rfl, htk, n, rfl⟩ := hrel
      have HT := Lib.hid htk; clear htk
      by_cases hlt : k < xs.length
      · have hlt' : k < ys.length := by rw [← HL.out]; exact hlt
        obtain ⟨b, off, x, rfl, hc, hx⟩ := h k hlt
        obtain ⟨b', off', y, rfl, hc', hy⟩ := h' k hlt'
        by_cases hxy : x = y
        · subst hxy
          go_wp2
          go_quiet (fail)
          go_wp2
          go_roundw
          case rel => exact ⟨k + 1, by omega, by go_num, by rw [take_snoc hx, take_snoc hy, HT.out], (by first | exact drew2 _ _ _ | exact ⟨_, rfl⟩)⟩
          case measure => simp [intOf]; omega
        · have hxy' : (x != y) = true := by simpa using hxy
          go_wp2
          go_quiet (fail)
          go_wp2
          go_ret
          exact ⟨ret_bool (by simpa using ne_of_getElem? hx hy hxy), (by first | exact drew2 _ _ _ | exact ⟨_, rfl⟩)⟩
      · go_wp2
        go_ret
        have : k = xs.length := by omega
        subst this
        have e := HT.out
        rw [take_all (Nat.le_refl _), take_all (by rw [HL.out]; exact Nat.le_refl _)] at e
        exact ⟨ret_bool (by simpa using e), _, rfl⟩
  · have hle' : ((xs.length : Int) != (ys.length : Int)) = true := by simp; omega
    go_enter Tryd.func22, Tryd.ntmps22
    go_wp2
    go_ret
    exact ⟨ret_bool (by simp; intro e; exact hle (by rw [e])), 0, rfl⟩

theorem spec_l00Same (A B : Option Addr) (c d : Nat) (xs ys : List Int) (w : World) (h : Ints w A xs) (h' : Ints w B ys) (hl : xs.length ≤ 9223372036854775807) (_hl' : ys.length ≤ 9223372036854775807) :
    Calls Tryd.prog 57 #[.slice A xs.length c, .slice B ys.length d] w fun e w' => e = .returned (.bool (decide (xs = ys))) ∧ ∃ n, w' = w.drewN n := by
  by_cases hle : xs.length = ys.length
  · have HL := Lib.hid hle
    have hle' : ((xs.length : Int) != (ys.length : Int)) = false := by simp [hle]
    clear hle
    go_enter Tryd.func57, Tryd.ntmps57
    go_wp2
    go_loopw [5] (fun i wr => ∃ (k : Nat), k ≤ xs.length ∧ i = .int .i64 k ∧ xs.take k = ys.take k ∧ ∃ n, wr = w.drewN n) (fun i _ => xs.length - (intOf i).toNat)
    case atStart => exact ⟨0, Nat.zero_le _, rfl, rfl, 0, rfl⟩
    case round =>
      obtain ⟨k, hk, rfl, htk, n, rfl⟩ := hrel
      have HT := Lib.hid htk; clear htk
      by_cases hlt : k < xs.length
      · have hlt' : k < ys.length := by rw [← HL.out]; exact hlt
        obtain ⟨b, off, x, rfl, hc, hx⟩ := h k hlt
        obtain ⟨b', off', y, rfl, hc', hy⟩ := h' k hlt'
        by_cases hxy : x = y
        · subst hxy
          go_wp2
          go_quiet (fail)
          go_wp2
          go_roundw
          case rel => exact ⟨k + 1, by omega, by go_num, by rw [take_snoc hx, take_snoc hy, HT.out], (by first | exact drew2 _ _ _ | exact ⟨_, rfl⟩)⟩
          case measure => simp [intOf]; omega
        · have hxy' : (x != y) = true := by simpa using hxy
          go_wp2
          go_quiet (fail)
          go_wp2
          go_ret
          exact ⟨ret_bool (by simpa using ne_of_getElem? hx hy hxy), (by first | exact drew2 _ _ _ | exact ⟨_, rfl⟩)⟩
      · go_wp2
        go_ret
        have : k = xs.length := by omega
        subst this
        have e := HT.out
        rw [take_all (Nat.le_refl _), take_all (by rw [HL.out]; exact Nat.le_refl _)] at e
        exact ⟨ret_bool (by simpa using e), _, rfl⟩
  · have hle' : ((xs.length : Int) != (ys.length : Int)) = true := by simp; omega
    go_enter Tryd.func57, Tryd.ntmps57
    go_wp2
    go_ret
    exact ⟨ret_bool (by simp; intro e; exact hle (by rw [e])), 0, rfl⟩

theorem spec_l00In (n lo hi : Int) (w : World) : Calls Tryd.prog 39 #[.int .i64 n, .int .i64 lo, .int .i64 hi] w fun e w' => e = .returned (.bool (inR n lo hi)) ∧ w = w' := by
  unfold inR
  by_cases h1 : lo ≤ n
  · go_enter Tryd.func39, Tryd.ntmps39
    go_wp2
    go_ret
    exact ⟨by simp [h1], rfl⟩
  · go_enter Tryd.func39, Tryd.ntmps39
    go_wp2
    go_ret
    exact ⟨by simp; omega, rfl⟩

theorem impl_within (n lo hi : Int) (w : World) : Calls Tryd.prog 66 #[.int .i64 n, .int .i64 lo, .int .i64 hi] w fun e w' => e = .returned (.bool (inR n lo hi)) ∧ w = w' := by
  unfold inR
  by_cases h1 : lo ≤ n
  · go_enter Tryd.func66, Tryd.ntmps66
    go_wp2
    go_ret
    exact ⟨by simp [h1], rfl⟩
  · go_enter Tryd.func66, Tryd.ntmps66
    go_wp2
    go_ret
    exact ⟨by simp; omega, rfl⟩

theorem impl_isStitch (n : Int) (w : World) : Calls Tryd.prog 94 #[.int .i64 n] w fun e w' => e = .returned (.bool (isStitchB n)) ∧ w = w' := by
  go_enter Tryd.func94, Tryd.ntmps94
  go_wp2_with (first | (refine (impl_within _ _ _ _).mono ?_; rintro e w' ⟨rfl, rfl⟩) | (refine (spec_l00In _ _ _ _).mono ?_; rintro e w' ⟨rfl, rfl⟩))
  go_ret
  exact ⟨rfl, rfl⟩

theorem spec_l14Kind (n : Int) (w : World) : Calls Tryd.prog 92 #[.int .i64 n] w fun e w' => e = .returned (.bool (isStitchB n)) ∧ w = w' := by
  go_enter Tryd.func92, Tryd.ntmps92
  go_wp2_with (first | (refine (impl_within _ _ _ _).mono ?_; rintro e w' ⟨rfl, rfl⟩) | (refine (spec_l00In _ _ _ _).mono ?_; rintro e w' ⟨rfl, rfl⟩))
  go_ret
  exact ⟨rfl, rfl⟩

theorem impl_isCarrier (n : Int) (w : World) : Calls Tryd.prog 78 #[.int .i64 n] w fun e w' => e = .returned (.bool (carrierB n)) ∧ w = w' := by
  go_enter Tryd.func78, Tryd.ntmps78
  go_wp2_with (first | (refine (impl_within _ _ _ _).mono ?_; rintro e w' ⟨rfl, rfl⟩) | (refine (spec_l00In _ _ _ _).mono ?_; rintro e w' ⟨rfl, rfl⟩))
  go_ret
  exact ⟨rfl, rfl⟩

theorem spec_l07Yarn (n : Int) (w : World) : Calls Tryd.prog 72 #[.int .i64 n] w fun e w' => e = .returned (.bool (carrierB n)) ∧ w = w' := by
  go_enter Tryd.func72, Tryd.ntmps72
  go_wp2_with (first | (refine (impl_within _ _ _ _).mono ?_; rintro e w' ⟨rfl, rfl⟩) | (refine (spec_l00In _ _ _ _).mono ?_; rintro e w' ⟨rfl, rfl⟩))
  go_ret
  exact ⟨rfl, rfl⟩

theorem impl_areStitches_1 (n : Int) (w : World) : Calls Tryd.prog 93 #[.int .i64 n] w fun e w' => e = .returned (.bool (!isStitchB n)) ∧ w = w' := by
  go_enter Tryd.func93, Tryd.ntmps93
  go_wp2_with (refine (impl_isStitch _ _).mono ?_; rintro e w' ⟨rfl, rfl⟩)
  go_ret
  exact ⟨rfl, rfl⟩

theorem indexFunc_impl_areStitches_1 (A : Option Addr) (c : Nat) (xs : List Int) (w : World) (h : Ints w A xs) (hl : xs.length ≤ 9223372036854775807) : Calls Tryd.prog 108 #[.slice A xs.length c, .func (.func 93) #[] #[]] w fun e w' => AnyInt (fun k => decide (0 ≤ k) = xs.any (fun n => !isStitchB n) ∧ k ≤ 9223372036854775807) e ∧ w = w' := by
  go_enter Tryd.func108, Tryd.ntmps108
  go_wp2
  go_loop [8] (fun i => ∃ k : Nat, k ≤ xs.length ∧ i = .int .i64 k ∧ (xs.take k).any (fun n => !isStitchB n) = false) (fun i => xs.length - (intOf i).toNat)
  case atStart => exact ⟨0, Nat.zero_le _, rfl, rfl⟩
  case round =>
    obtain ⟨k, hk, rfl, ha⟩ := hrel
    have HA := Lib.hid ha; clear ha
    by_cases hlt : k < xs.length
    · obtain ⟨b, off, x, rfl, hc, hx⟩ := h k hlt
      have HX := Lib.hid hx; clear hx
      go_wp2_with (refine (impl_areStitches_1 _ _).mono ?_; rintro e w' ⟨rfl, rfl⟩)
      · have hq : ((fun n => !isStitchB n) x) = true := by assumption
        go_ret
        refine ⟨⟨_, rfl, ?_, by omega⟩, rfl⟩
        rw [any_true_at HX.out hq]
        simp
      · have hq : ((fun n => !isStitchB n) x) = false := by assumption
        go_round
        case rel => exact ⟨k + 1, by omega, by go_num, by rw [take_snoc HX.out, List.any_append, HA.out]; simpa using hq⟩
        case measure => simp [intOf]; omega
    · go_wp2
      go_ret
      refine ⟨⟨_, rfl, ?_, by omega⟩, rfl⟩
      have := HA.out
      rw [take_all (by omega)] at this
      rw [this]
      rfl

theorem containsFunc_impl_areStitches_1 (A : Option Addr) (c : Nat) (xs : List Int) (w : World) (h : Ints w A xs) (hl : xs.length ≤ 9223372036854775807) : Calls Tryd.prog 76 #[.slice A xs.length c, .func (.func 93) #[] #[]] w fun e w' => e = .returned (.bool (xs.any (fun n => !isStitchB n))) ∧ w = w' := by
  go_enter Tryd.func76, Tryd.ntmps76
  go_wp2_with (refine (indexFunc_impl_areStitches_1 _ _ _ _ h hl).mono ?_; rintro e w' ⟨⟨k, rfl, hk, hk'⟩, rfl⟩)
  go_ret
  exact ⟨rfl, rfl⟩

theorem impl_areStitches (A : Option Addr) (c : Nat) (xs : List Int) (w : World) (h : Ints w A xs) (hl : xs.length ≤ 9223372036854775807) : Calls Tryd.prog 59 #[.slice A xs.length c] w fun e w' => e = .returned (.bool (stitchesB xs)) ∧ w = w' := by
  by_cases h8 : xs.length ≤ 16
  · have h8' : decide ((xs.length : Int) ≤ 16) = true := by simp; omega
    go_enter Tryd.func59, Tryd.ntmps59
    go_wp2_with (refine (containsFunc_impl_areStitches_1 _ _ _ _ h hl).mono ?_; rintro e w' ⟨rfl, rfl⟩)
    go_ret
    exact ⟨ret_bool (by rw [stitchesB]; simp [h8, List.all_eq_not_any_not]), rfl⟩
  · have h8' : decide ((xs.length : Int) ≤ 16) = false := by simp; omega
    go_enter Tryd.func59, Tryd.ntmps59
    go_wp2_with (fail)
    go_ret
    exact ⟨ret_bool (by rw [stitchesB]; simp [h8]), rfl⟩

theorem spec_l14Ok (A : Option Addr) (c : Nat) (xs : List Int) (w : World) (h : Ints w A xs) (hl : xs.length ≤ 9223372036854775807) : Calls Tryd.prog 55 #[.slice A xs.length c] w fun e w' => e = .returned (.bool (stitchesB xs)) ∧ w = w' := by
  go_enter Tryd.func55, Tryd.ntmps55
  go_wp2
  go_loop [3] (fun i => ∃ k : Nat, k ≤ xs.length ∧ i = .int .i64 k ∧ (xs.take k).all isStitchB = true) (fun i => xs.length - (intOf i).toNat)
  case atStart => exact ⟨0, Nat.zero_le _, rfl, rfl⟩
  case round =>
    obtain ⟨k, hk, rfl, ha⟩ := hrel
    have HA := Lib.hid ha; clear ha
    by_cases hlt : k < xs.length
    · obtain ⟨b, off, x, rfl, hc, hx⟩ := h k hlt
      have HX := Lib.hid hx; clear hx
      go_wp2_with (refine (spec_l14Kind _ _).mono ?_; rintro e w' ⟨rfl, rfl⟩)
      · have hq : (isStitchB x) = false := by simpa using (show (!(isStitchB x)) = true by assumption)
        go_ret
        exact ⟨ret_bool (by rw [stitchesB, all_false_at HX.out hq]; rfl), rfl⟩
      · have hq : (isStitchB x) = true := by simpa using (show (!(isStitchB x)) = false by assumption)
        go_round
        case rel => exact ⟨k + 1, by omega, by go_num, by rw [take_snoc HX.out, List.all_append, HA.out]; simpa using hq⟩
        case measure => simp [intOf]; omega
    · have ha := HA.out
      rw [take_all (by omega)] at ha
      go_wp2
      go_ret
      exact ⟨ret_bool (by rw [stitchesB, ha]; simp; constructor <;> intro <;> omega), rfl⟩


end Go.Proofs.YtcgbogofmdjddaaDoor

/- Rows: the helpers of the laws. -/
namespace Go.Proofs.YtcgbogofmdjddaaDoor
open Go.RowKit

theorem bcell {B : Nat} {W w1 : World} (hb : Below B W w1) : (∀ b o, b < B → w1.cell? ⟨b, o, none⟩ = W.cell? ⟨b, o, none⟩) ∧ (∀ b o, b < B → w1.frozen? ⟨b, o, none⟩ = W.frozen? ⟨b, o, none⟩) :=
  ⟨fun b o h => hb.cell (p := ⟨b, o, none⟩) h, fun b o h => hb.frozen (p := ⟨b, o, none⟩) h⟩


end Go.Proofs.YtcgbogofmdjddaaDoor

/- Marks: the laws write numbers into a slice and read them back. -/
namespace Go.Proofs.YtcgbogofmdjddaaDoor
open Go.RowKit

theorem OwnC.cap {w : World} {lo hi : Nat} {e : TypeId} {sz : Nat} {A : Option Addr} {n c : Nat} {cs : List Value} (h : OwnC w lo hi e sz A n c cs) : n ≤ c := by
  rcases h.form with ⟨_, rfl, rfl, _⟩ | ⟨_, _, _, _, _, _, h, _⟩
  · exact Nat.le_refl _
  · exact h
theorem belowOf {P : Program} {f : FuncId} {args : Array Value} {w : World} {Φ : Ending → Prop} (h : Calls P f args w fun e w' => Φ e ∧ w = w') : Calls P f args w fun e w' => Φ e ∧ Below w.heap.size w w' :=
  h.mono fun _ _ ⟨a, b⟩ => ⟨a, by subst b; exact Below.refl _ _⟩
theorem belowOfN {P : Program} {f : FuncId} {args : Array Value} {w : World} {Φ : Ending → Prop} (h : Calls P f args w fun e w' => Φ e ∧ ∃ n, w' = w.drewN n) : Calls P f args w fun e w' => Φ e ∧ Below w.heap.size w w' :=
  h.mono fun _ _ ⟨a, n, b⟩ => ⟨a, by subst b; exact below_drewN (Below.refl _ _) _⟩
theorem laws_eqInt64S' (A B : Option Addr) (c d : Nat) (xs ys : List Int) (w : World) (h : Ints w A xs) (h' : Ints w B ys) (hl : xs.length ≤ 9223372036854775807) (hl' : ys.length ≤ 9223372036854775807) :
    Calls Tryd.prog 22 #[.slice A xs.length c, .slice B ys.length d] w fun e w' => e = .returned (.bool (decide (xs = ys))) ∧ Below w.heap.size w w' := belowOfN (laws_eqInt64S A B c d xs ys w h h' hl hl')

def marksI (k : Int) (m : Nat) : List Int := (List.range m).map fun (i : Nat) => k + i
theorem marksI_length (k : Int) (m : Nat) : (marksI k m).length = m := by simp [marksI]
theorem marksI_snoc (k : Int) (m : Nat) : marksI k (m + 1) = marksI k m ++ [k + m] := by simp [marksI, List.range_succ]
theorem marksI_at {k : Int} {m i : Nat} {p : Int} (h : (marksI k m)[i]? = some p) : p = k + i := by
  simp only [marksI, List.getElem?_map, Option.map_eq_some_iff] at h
  obtain ⟨j, hj, rfl⟩ := h
  obtain ⟨hl, he⟩ := List.getElem?_eq_some_iff.1 hj
  simp at he
  subst he
  rfl

theorem upd_alloc (w : World) (o : Obj) (lo hi : Nat) : Upd lo hi w (w.alloc o) :=
  ⟨rfl, rfl, rfl, by simp, fun k hk _ => Below.heap_alloc w o k hk⟩

set_option maxHeartbeats 1000000 in
theorem laws_markInt64S (A : Option Addr) (c : Nat) (xs : List Int) (k0 : Int) (lo hi : Nat) (w : World) (h : OwnI w lo hi A c xs) (hk0 : 0 ≤ k0) (hk1 : k0 + xs.length ≤ 1000000000000) :
    Calls Tryd.prog 33 #[.slice A xs.length c, .int .i64 k0] w fun e w' => e = .returned (.int .i64 (k0 + xs.length)) ∧ OwnC w' lo hi 2 1 A xs.length c ((marksI k0 xs.length).map (Value.int .i64)) ∧ Upd lo hi w w' := by
  have hlen : xs.length ≤ 9223372036854775807 := by omega
  go_enter Tryd.func33, Tryd.ntmps33
  go_wp2
  go_loopw [1, 5] (fun kv i wr => ∃ (k : Nat) (cs : List Value), k ≤ xs.length ∧ i = .int .i64 k ∧ kv = .int .i64 (k0 + k) ∧ OwnC wr lo hi 2 1 A xs.length c cs ∧ cs.take k = (marksI k0 k).map (Value.int .i64) ∧ Upd lo hi w wr) (fun _ i _ => xs.length - (intOf i).toNat)
  case atStart => exact ⟨0, _, Nat.zero_le _, rfl, by simp, h, by simp [marksI], Upd.refl _ _ _⟩
  case round =>
    clear h
    obtain ⟨k, cs, hk, rfl, rfl, ho, htk, hu⟩ := hrel
    have hcl : cs.length = xs.length * 1 := ho.len
    have HT := Lib.hid htk; clear htk
    have HC := Lib.hid hcl; clear hcl
    by_cases hlt : k < xs.length
    · obtain ⟨g, rfl, hg1, hg2, q0, f0⟩ := ho.cell (j := k) (by rw [HC.out]; omega)
      go_wp2_with (fail)
      go_roundw
      case rel =>
        refine ⟨k + 1, cs.set k (.int .i64 (k0 + k)), by omega, by go_num, by push_cast; go_num, (ho.store _).1, ?_, by (repeat (first | exact Upd.refl _ _ _ | assumption | apply Upd.drewN | (refine Upd.setCell ?_ (by first | omega | (simp; done) | (simp; omega)) (by first | omega | (simp; done) | (simp; omega)) _)))⟩
        rw [marksI_snoc, take_set_succ _ _ _ (by rw [HC.out]; omega), HT.out]
        simp
      case measure => simp [intOf]; omega
    · go_wp2
      go_ret
      have : k = xs.length := by omega
      subst this
      have e : cs = (marksI k0 xs.length).map (Value.int .i64) := by
        have := HT.out
        rwa [take_all (by rw [HC.out]; omega)] at this
      subst e
      exact ⟨rfl, ho, hu⟩

theorem laws_heldInt64S (A : Option Addr) (c m : Nat) (k0 : Int) (w : World) (h : Ints w A (marksI k0 m)) (hk0 : 0 ≤ k0) (hk1 : k0 + m ≤ 1000000000000) :
    Calls Tryd.prog 34 #[.slice A m c, .int .i64 k0] w fun e w' => e = .returned (.int .i64 (k0 + m)) ∧ w = w' := by
  go_enter Tryd.func34, Tryd.ntmps34
  go_wp2
  go_loop [1, 5] (fun kv i => ∃ (k : Nat), k ≤ m ∧ i = .int .i64 k ∧ kv = .int .i64 (k0 + k)) (fun _ i => m - (intOf i).toNat)
  case atStart => exact ⟨0, Nat.zero_le _, rfl, by simp⟩
  case round =>
    obtain ⟨k, hk, rfl, rfl⟩ := hrel
    by_cases hlt : k < m
    · obtain ⟨b, off, p, rfl, h0, hp⟩ := h k (by rw [marksI_length]; exact hlt)
      obtain rfl := marksI_at hp
      clear hp
      go_wp2_with (fail)
      go_round
      case rel => exact ⟨k + 1, by omega, by go_num, by push_cast; go_num⟩
      case measure => simp [intOf]; omega
    · go_wp2
      go_ret
      have : k = m := by omega
      subst this
      exact ⟨rfl, rfl⟩


end Go.Proofs.YtcgbogofmdjddaaDoor

/- Slices of slices of numbers: how they are read and owned, and the helpers of the laws on them. -/
namespace Go.Proofs.YtcgbogofmdjddaaDoor
open Go.RowKit

def Ints2 (w : World) (A : Option Addr) (xss : List (List Int)) : Prop :=
  ∀ k, k < xss.length → ∃ b off A' c' xs, A = some ⟨b, off, none⟩ ∧ xss[k]? = some xs ∧ w.cell? ⟨b, off + k, none⟩ = some (.slice A' xs.length c') ∧ Ints w A' xs ∧ xs.length ≤ 9223372036854775807
theorem Ints2.of_cells {w w' : World} {A : Option Addr} {xss : List (List Int)} (h : Ints2 w A xss) (hk : ∀ a v, w.cell? a = some v → w'.cell? a = some v) : Ints2 w' A xss :=
  fun k hk' => by
    obtain ⟨b, off, A', c', xs, hA, hx, hc, hi, hl⟩ := h k hk'
    exact ⟨b, off, A', c', xs, hA, hx, hk _ _ hc, hi.of_cells hk, hl⟩
theorem Ints2.below {w w' : World} {A : Option Addr} {xss : List (List Int)} (h : Ints2 w A xss) (hb : Below w.heap.size w w') : Ints2 w' A xss := h.of_cells (cells_below hb)
theorem Ints2.drewN {w : World} {A : Option Addr} {xss : List (List Int)} (h : Ints2 w A xss) (n : Nat) : Ints2 (w.drewN n) A xss := h
theorem Ints2.nil {w : World} {A : Option Addr} : Ints2 w A [] := fun k hk => by simp at hk

def cntII : List (List Int) → Nat
  | [] => 0
  | xs :: r => xs.length + cntII r
def sizeII (xss : List (List Int)) : Nat := xss.length + cntII xss
theorem cntII_append (a b : List (List Int)) : cntII (a ++ b) = cntII a + cntII b := by
  induction a with
  | nil => simp [cntII]
  | cons x r ih => simp [cntII, ih]; omega
theorem cntII_snoc {xss : List (List Int)} {k : Nat} {xs : List Int} (h : xss[k]? = some xs) : cntII (xss.take (k + 1)) = cntII (xss.take k) + xs.length := by
  rw [take_snoc h, cntII_append]; simp [cntII]
theorem cntII_take_le (xss : List (List Int)) (k : Nat) : cntII (xss.take k) ≤ cntII xss := by
  have := cntII_append (xss.take k) (xss.drop k)
  rw [List.take_append_drop] at this
  omega
theorem cntII_at {xss : List (List Int)} {k : Nat} {xs : List Int} (h : xss[k]? = some xs) : cntII (xss.take k) + xs.length ≤ cntII xss := by
  rw [← cntII_snoc h]; exact cntII_take_le _ _

/-- A slice of slices that is the call's own: the inner ones lie in blocks of their own, each in another. -/
def CellsII (w : World) (lo hi : Nat) (cs : List Value) (xss : List (List Int)) : Prop :=
  cs.length = xss.length ∧ (∀ (k : Nat) (xs : List Int), xss[k]? = some xs → ∃ (A' : Option Addr) (c' : Nat), cs[k]? = some (Value.slice A' xs.length c') ∧ OwnI w lo hi A' c' xs) ∧
  ∀ (i j : Nat) (v v' : Value) (g : Nat), cs[i]? = some v → cs[j]? = some v' → v.ownBlock = some g → v'.ownBlock = some g → i = j

theorem CellsII.keep {w w' : World} {lo hi : Nat} {cs : List Value} {xss : List (List Int)} (h : CellsII w lo hi cs xss) (hk : ∀ k, lo ≤ k → k < hi → k < w.heap.size → w'.heap[k]? = w.heap[k]?) : CellsII w' lo hi cs xss :=
  ⟨h.1, fun k xs hx => by obtain ⟨A', c', h1, h2⟩ := h.2.1 k xs hx; exact ⟨A', c', h1, h2.keep hk⟩, h.2.2⟩
theorem CellsII.mono {w : World} {lo hi lo' hi' : Nat} {cs : List Value} {xss : List (List Int)} (h : CellsII w lo hi cs xss) (h1 : lo' ≤ lo) (h2 : hi ≤ hi') : CellsII w lo' hi' cs xss :=
  ⟨h.1, fun k xs hx => by obtain ⟨A', c', h3, h4⟩ := h.2.1 k xs hx; exact ⟨A', c', h3, h4.mono h1 h2⟩, h.2.2⟩

structure OwnII (w : World) (lo hi : Nat) (A : Option Addr) (n c : Nat) (xss : List (List Int)) : Prop where
  ex : ∃ cs, OwnC w lo hi 35 1 A n c cs ∧ CellsII w lo hi cs xss
section
variable {w w' : World} {lo hi n : Nat} {A : Option Addr} {c : Nat} {xss : List (List Int)}
theorem OwnII.keep (h : OwnII w lo hi A n c xss) (hk : ∀ k, lo ≤ k → k < hi → k < w.heap.size → w'.heap[k]? = w.heap[k]?) : OwnII w' lo hi A n c xss := by
  obtain ⟨cs, h1, h2⟩ := h.ex
  exact ⟨cs, h1.keep hk, h2.keep hk⟩
theorem OwnII.below {B : Nat} (h : OwnII w lo hi A n c xss) (hb : Below B w w') (hB : hi ≤ B) : OwnII w' lo hi A n c xss := h.keep fun k _ h2 _ => hb.block k (by omega)
theorem OwnII.upd {l2 h2 : Nat} (h : OwnII w lo hi A n c xss) (hb : Upd l2 h2 w w') (hB : hi ≤ l2 ∨ h2 ≤ lo) : OwnII w' lo hi A n c xss := h.keep fun k h3 h4 h5 => hb.block k h5 (by omega)
theorem OwnII.mono {lo' hi' : Nat} (h : OwnII w lo hi A n c xss) (h1 : lo' ≤ lo) (h2 : hi ≤ hi') : OwnII w lo' hi' A n c xss := by
  obtain ⟨cs, h3, h4⟩ := h.ex
  exact ⟨cs, h3.mono h1 h2, h4.mono h1 h2⟩
theorem OwnII.alloc (h : OwnII w lo hi A n c xss) (o : Obj) : OwnII (w.alloc o) lo hi A n c xss := h.keep fun k _ _ h4 => Below.heap_alloc w o k h4
theorem OwnII.far (h : OwnII w lo hi A n c xss) {p : Addr} (hp : p.block < lo ∨ hi ≤ p.block) (u : Value) : OwnII (w.setCell p u) lo hi A n c xss :=
  h.keep fun k h2 h3 _ => Below.heap_setCell w p u k (by omega)
theorem OwnII.len (h : OwnII w lo hi A n c xss) : xss.length = n := by
  obtain ⟨cs, h1, h2⟩ := h.ex
  have := h1.len
  rw [← h2.1]; omega
theorem OwnC.maxc {sz : Nat} {e : TypeId} {cs : List Value} (h : OwnC w lo hi e sz A n c cs) : n ≤ 9223372036854775807 := by
  rcases h.form with ⟨_, rfl, rfl, _⟩ | ⟨_, _, _, _, _, _, h, h', _⟩
  · omega
  · unfold maxLen at h'; omega
theorem OwnII.ints2 (h : OwnII w lo hi A n c xss) : Ints2 w A xss := by
  obtain ⟨cs, h1, h2, h3, _⟩ := h.ex
  intro k hk
  obtain ⟨g, rfl, _, _, hc, _⟩ := h1.cell (j := k) (by omega)
  have hx : xss[k]? = some xss[k] := List.getElem?_eq_getElem hk
  obtain ⟨A', c', h4, h5⟩ := h3 k _ hx
  rw [List.getElem?_eq_getElem (by omega)] at h4
  injection h4 with h4
  rw [h4] at hc
  exact ⟨g, 0, A', c', xss[k], rfl, hx, by simpa using hc, h5.ints, h5.maxc⟩
theorem OwnII.cap (h : OwnII w lo hi A n c xss) : n ≤ c := by obtain ⟨_, h1, _⟩ := h.ex; exact h1.cap
end
theorem info_ints : (Tryd.prog.info? 35).map (fun i => (i.zero, i.size, i.bytes)) = some (some (.slice none 0 0), 1, 24) := by kernel_rfl

theorem CellsII.nils {w : World} {lo hi n : Nat} : CellsII w lo hi (List.replicate n (.slice none 0 0)) (List.replicate n []) := by
  refine ⟨by simp, fun k xs hx => ?_, fun i j v v' g hi' hj hv hv' => ?_⟩
  · by_cases hk : k < n
    · simp [hk] at hx
      subst hx
      exact ⟨none, 0, by simp [hk], OwnC.nil _ _ _ _ _⟩
    · simp [hk] at hx
  · by_cases hk : i < n
    · simp [hk] at hi'
      subst hi'
      simp [Value.ownBlock] at hv
    · simp [hk] at hi'

/-- One inner slice is put in place of another; it lies in blocks from hi on. -/
theorem CellsII.set {w : World} {lo hi l2 h2 : Nat} {cs : List Value} {xss : List (List Int)} {k : Nat} {A' : Option Addr} {c' : Nat} {xs : List Int}
    (h : CellsII w lo hi cs xss) (ho : OwnI w l2 h2 A' c' xs) (h1 : hi ≤ l2) (h3 : hi ≤ h2) (h4 : lo ≤ l2) (hk : k < xss.length) : CellsII w lo h2 (cs.set k (.slice A' xs.length c')) (xss.set k xs) := by
  obtain ⟨ha, hb, hc⟩ := h
  refine ⟨by simpa using ha, fun j ys hy => ?_, fun i j v v' g hi' hj hv hv' => ?_⟩
  · by_cases e : k = j
    · subst e
      rw [List.getElem?_set_self hk] at hy
      injection hy with hy
      subst hy
      exact ⟨A', c', by rw [List.getElem?_set_self (by omega)], ho.mono h4 (Nat.le_refl _)⟩
    · rw [List.getElem?_set_ne e] at hy
      obtain ⟨A2, c2, h5, h6⟩ := hb j ys hy
      exact ⟨A2, c2, by rw [List.getElem?_set_ne e]; exact h5, h6.mono (Nat.le_refl _) h3⟩
  · have new : (Value.slice A' xs.length c').ownBlock = some g → hi ≤ g := by
      intro e
      have := ho.own.lt g e
      omega
    have old : ∀ i v, k ≠ i → (cs.set k (.slice A' xs.length c'))[i]? = some v → v.ownBlock = some g → g < hi := by
      intro i v hne h7 h8
      rw [List.getElem?_set_ne hne] at h7
      have hil : i < xss.length := by rw [← ha]; exact (List.getElem?_eq_some_iff.1 h7).1
      obtain ⟨A2, c2, h5, h6⟩ := hb i _ (List.getElem?_eq_getElem hil)
      rw [h5] at h7
      injection h7 with h7
      subst h7
      cases A2 with
      | none => simp [Value.ownBlock] at h8
      | some a => simp [Value.ownBlock] at h8; subst h8; exact h6.lt a rfl
    by_cases ei : k = i
    · by_cases ej : k = j
      · omega
      · subst ei
        rw [List.getElem?_set_self (by omega)] at hi'
        injection hi' with hi'
        subst hi'
        have := new hv
        have := old j v' ej hj hv'
        omega
    · by_cases ej : k = j
      · subst ej
        rw [List.getElem?_set_self (by omega)] at hj
        injection hj with hj
        subst hj
        have := new hv'
        have := old i v ei hi' hv
        omega
      · rw [List.getElem?_set_ne ei] at hi'
        rw [List.getElem?_set_ne ej] at hj
        exact hc i j v v' g hi' hj hv hv'

theorem OwnC.keep1 {w w' : World} {lo hi : Nat} {e : TypeId} {sz : Nat} {A : Option Addr} {n c : Nat} {cs : List Value} (h : OwnC w lo hi e sz A n c cs) (hk : ∀ g, A = some ⟨g, 0, none⟩ → w'.heap[g]? = w.heap[g]?) : OwnC w' lo hi e sz A n c cs := by
  refine ⟨⟨h.own.1, ?_⟩, h.lt⟩
  rcases h.own.2 with h2 | ⟨g, cap, cur, h4, h5, h6, h7⟩
  · exact .inl h2
  · injection h4 with h4 hn h11
    subst h4 h11
    exact .inr ⟨g, c, cur, rfl, h5, by rw [hk g rfl]; exact h6, h7⟩

/-- One inner slice, by itself: whatever changes in its block alone changes it alone. -/
theorem OwnII.open_ {w : World} {lo hi n : Nat} {A : Option Addr} {c : Nat} {xss : List (List Int)} (h : OwnII w lo hi A n c xss) {k : Nat} {xs : List Int} (hx : xss[k]? = some xs) :
    ∃ g A' c' l h', A = some ⟨g, 0, none⟩ ∧ w.cell? ⟨g, k, none⟩ = some (.slice A' xs.length c') ∧ OwnI w l h' A' c' xs ∧ xs.length ≤ 9223372036854775807 ∧
      ∀ (w' : World) (ys : List Int), ys.length = xs.length → Upd l h' w w' → OwnC w' l h' 2 1 A' xs.length c' (ys.map (Value.int .i64)) → OwnII w' lo hi A n c (xss.set k ys) ∧ Upd lo hi w w' := by
  obtain ⟨cs, ho, ha, hb, hc⟩ := h.ex
  have hk : k < xss.length := (List.getElem?_eq_some_iff.1 hx).1
  obtain ⟨A', c', h1, h2⟩ := hb k xs hx
  obtain ⟨g, rfl, hg1, hg2, hcell, _⟩ := ho.cell (j := k) (by omega)
  have h1' := h1
  rw [List.getElem?_eq_getElem (by omega)] at h1'
  injection h1' with h1'
  rw [h1'] at hcell
  have tight : ∃ l h', OwnI w l h' A' c' xs ∧ (∀ j, l ≤ j → j < h' → A' = some ⟨j, 0, none⟩ ∧ lo ≤ j ∧ j < hi ∧ j ≠ g) := by
    rcases h2.form with ⟨rfl, hn, rfl, _⟩ | ⟨q, cur, rfl, hq1, hq2, hq3, hq4⟩
    · have hxs : xs = [] := List.eq_nil_of_length_eq_zero hn
      subst hxs
      exact ⟨0, 0, OwnC.nil _ _ _ _ _, fun j _ h => by omega⟩
    · refine ⟨q, q + 1, ⟨⟨h2.own.1, .inr ⟨q, c', cur, rfl, Nat.le_refl _, hq3, hq4⟩⟩, fun a e => by injection e with e; subst e; exact Nat.lt_succ_self _⟩, fun j hj1 hj2 => ?_⟩
      obtain rfl : j = q := by omega
      refine ⟨rfl, hq1, hq2, ?_⟩
      rintro rfl
      rcases ho.form with ⟨h, _⟩ | ⟨q', cur', h, _, _, h4, _⟩
      · simp at h
      · injection h with h
        injection h with h
        subst h
        rw [hq3] at h4
        injection h4 with h4
        injection h4 with _ h4
        simp at h4
  obtain ⟨l, h', hl1, hl2⟩ := tight
  refine ⟨g, A', c', l, h', rfl, hcell, hl1, hl1.maxc, fun w' ys hlen hu hn => ⟨⟨cs, ho.keep1 fun q hq => ?_, by simpa using ha, fun j zs hz => ?_, hc⟩, ?_⟩⟩
  · injection hq with hq
    injection hq with hq
    subst hq
    refine hu.block g (cell_lt hcell) ?_
    rcases Nat.lt_or_ge g l with h | h
    · exact .inl h
    · rcases Nat.lt_or_ge g h' with h3 | h3
      · exact absurd rfl (hl2 g h h3).2.2.2
      · exact .inr h3
  · by_cases e : k = j
    · subst e
      rw [List.getElem?_set_self hk] at hz
      injection hz with hz
      subst hz
      refine ⟨A', c', by rw [hlen]; exact h1, ?_⟩
      rw [← hlen] at hn
      refine ⟨⟨hn.own.1, ?_⟩, fun a haa => ?_⟩
      · rcases hn.own.2 with h3 | ⟨q, cap, cur, h3, h4, h5⟩
        · exact .inl h3
        · injection h3 with h3 hn' hcc
          have := hl2 q h4 (by have := hn.lt _ h3; exact this)
          exact .inr ⟨q, cap, cur, by rw [h3, hcc], this.2.1, h5⟩
      · subst haa
        rcases hn.form with ⟨h3, _⟩ | ⟨q, cur, h3, h4, h5, _⟩
        · simp at h3
        · injection h3 with h3
          subst h3
          exact (hl2 q h4 h5).2.2.1
    · rw [List.getElem?_set_ne e] at hz
      obtain ⟨A2, c2, h5, h6⟩ := hb j zs hz
      refine ⟨A2, c2, h5, h6.keep1 fun q hq => ?_⟩
      subst hq
      have hql : q < w.heap.size := by
        rcases h6.form with ⟨h, _⟩ | ⟨q', cur', h, _, _, h4, _⟩
        · simp at h
        · injection h with h
          injection h with h
          subst h
          exact (Array.getElem?_eq_some_iff.1 h4).1
      refine hu.block q hql ?_
      rcases Nat.lt_or_ge q l with h | h
      · exact .inl h
      · rcases Nat.lt_or_ge q h' with h3 | h3
        · have := (hl2 q h h3).1
          subst this
          exact absurd (hc k j _ _ q h1 h5 rfl rfl) e
        · exact .inr h3
  · exact ⟨hu.os, hu.tape, hu.output, hu.size, fun q hq hj => hu.block q hq (by
      rcases Nat.lt_or_ge q l with h | h
      · exact .inl h
      · rcases Nat.lt_or_ge q h' with h3 | h3
        · have := hl2 q h h3; omega
        · exact .inr h3)⟩

end Go.Proofs.YtcgbogofmdjddaaDoor
