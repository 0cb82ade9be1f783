/- Steps of the proof, joined from several texts: Lib P O A R M. -/
import Derived.Test.YthjamohaeahipaaGreatRows
import Derived.WalkKit
import Derived.WalkSpells
import Derived.BigQuiet
import Derived.Deep.QuietTactic
import Derived.Deep.RegionHeld3
import Derived.Lib.Hide
import Derived.ProofKit
import Derived.OpenShut
import Derived.ShutString
import Derived.ChangeOld
import Derived.Lib.SmallJoins
import Derived.Deep.Slices

/- Words for memory that every text of this seat uses: a slice of numbers that is read, a slice that a call owns, and what a call leaves as it was. -/
namespace Go.Proofs.YthjamohaeahipaaGreat
open Go.RowKit

def I (n : Int) : Value := .int .i64 n

/-- The slice at A, with these numbers, can be read. -/
def Ints (w : World) (A : Option Addr) (xs : List Int) : Prop :=
  ∀ k, k < xs.length → ∃ b off x, A = some ⟨b, off, none⟩ ∧ w.cell? ⟨b, off + k, none⟩ = some (.int .i64 x) ∧ xs[k]? = some x

theorem cell_lt {w : World} {a : Addr} {v : Value} (h : w.cell? a = some v) : a.block < w.heap.size := World.block_lt_of_cell? w a h

theorem Ints.of_cells {w w' : World} {A : Option Addr} {xs : List Int} (h : Ints w A xs) (hk : ∀ a v, w.cell? a = some v → w'.cell? a = some v) : Ints w' A xs :=
  fun k hk' => by
    obtain ⟨b, off, x, hA, hc, hx⟩ := h k hk'
    exact ⟨b, off, x, hA, hk _ _ hc, hx⟩

theorem cells_below {w w' : World} (hb : Below w.heap.size w w') : ∀ a v, w.cell? a = some v → w'.cell? a = some v :=
  fun a _ h => (hb.cell (p := a) (cell_lt h)).trans h

theorem cells_drewN {w : World} {n : Nat} : ∀ a v, w.cell? a = some v → (w.drewN n).cell? a = some v := fun _ _ h => h

theorem Ints.below {w w' : World} {A : Option Addr} {xs : List Int} (h : Ints w A xs) (hb : Below w.heap.size w w') : Ints w' A xs := h.of_cells (cells_below hb)
theorem Ints.drewN {w : World} {A : Option Addr} {xs : List Int} (h : Ints w A xs) (n : Nat) : Ints (w.drewN n) A xs := h
theorem Ints.nil {w : World} {A : Option Addr} : Ints w A [] := fun k hk => by simp at hk

theorem below_drewN {B : Nat} {w w' : World} (h : Below B w w') (n : Nat) : Below B w (w'.drewN n) := h.trans ⟨rfl, rfl, rfl, Nat.le_refl _, fun _ _ => rfl⟩

theorem undrew {w w' : World} (h : Below w.drew.heap.size w.drew w') : Below w.heap.size w w' := ⟨h.os, h.tape, h.output, h.size, h.block⟩

/-- Only blocks from lo up to hi may have changed. -/
structure Upd (lo hi : Nat) (w w' : World) : Prop where
  os : w'.os = w.os
  tape : w'.tape = w.tape
  output : w'.output = w.output
  size : w.heap.size ≤ w'.heap.size
  block : ∀ k, k < w.heap.size → (k < lo ∨ hi ≤ k) → w'.heap[k]? = w.heap[k]?

theorem Upd.refl (lo hi : Nat) (w : World) : Upd lo hi w w := ⟨rfl, rfl, rfl, Nat.le_refl _, fun _ _ _ => rfl⟩
theorem Upd.trans {lo hi : Nat} {a b c : World} (h : Upd lo hi a b) (k : Upd lo hi b c) : Upd lo hi a c :=
  ⟨k.os.trans h.os, k.tape.trans h.tape, k.output.trans h.output, Nat.le_trans h.size k.size,
   fun i hi' hj => (k.block i (Nat.lt_of_lt_of_le hi' h.size) hj).trans (h.block i hi' hj)⟩
theorem Upd.below {lo hi : Nat} {a b : World} (h : Upd lo hi a b) (hlo : lo ≤ a.heap.size) : Below lo a b :=
  ⟨h.os, h.tape, h.output, h.size, fun i hi' => h.block i (by omega) (.inl hi')⟩
theorem Upd.mono {lo hi lo' hi' : Nat} {a b : World} (h : Upd lo hi a b) (h1 : lo' ≤ lo) (h2 : hi ≤ hi') : Upd lo' hi' a b :=
  ⟨h.os, h.tape, h.output, h.size, fun i hi'' hj => h.block i hi'' (by omega)⟩
theorem Upd.drewN {lo hi : Nat} {a b : World} (h : Upd lo hi a b) (n : Nat) : Upd lo hi a (b.drewN n) :=
  ⟨h.os, h.tape, h.output, h.size, h.block⟩
theorem Upd.grown {lo hi : Nat} {a b c : World} {row : Option Nat} (h : Upd lo hi a b) (hg : b.grownBy c row) (hr : ∀ k, row = some k → lo ≤ k ∧ k < hi) : Upd lo hi a c :=
  h.trans ⟨hg.os, hg.tape, hg.output, hg.size, fun k hk hj => hg.block k hk (fun e => by have := hr k e.symm; omega)⟩
theorem Upd.setCell {lo hi : Nat} {a b : World} (h : Upd lo hi a b) {p : Addr} (h1 : lo ≤ p.block) (h2 : p.block < hi) (u : Value) : Upd lo hi a (b.setCell p u) :=
  h.trans ⟨rfl, rfl, rfl, by simp, fun k _ hj => Below.heap_setCell b p u k (by omega)⟩
theorem upd_of_below {B : Nat} {w w' : World} (h : Below B w w') (hB : w.heap.size ≤ B) (lo hi : Nat) : Upd lo hi w w' :=
  ⟨h.os, h.tape, h.output, h.size, fun k hk _ => h.block k (by omega)⟩

/-- The slice at A is the call's own, at the head of a block from lo to hi; it holds these cells (each element has 'sz' cells of the type e). -/
structure OwnC (w : World) (lo hi : Nat) (e : TypeId) (sz : Nat) (A : Option Addr) (n c : Nat) (cs : List Value) : Prop where
  own : w.ownsRow lo e sz (.slice A n c) n cs
  lt : ∀ a, A = some a → a.block < hi

section
variable {w w' : World} {lo hi : Nat} {e : TypeId} {sz : Nat} {A : Option Addr} {n c : Nat} {cs : List Value}
theorem OwnC.nil (w : World) (lo hi : Nat) (e : TypeId) (sz : Nat) : OwnC w lo hi e sz none 0 0 [] := ⟨World.ownsRow_nil _ _ _ _, by simp⟩
theorem OwnC.len (h : OwnC w lo hi e sz A n c cs) : cs.length = n * sz := h.own.1
theorem OwnC.form (h : OwnC w lo hi e sz A n c cs) : (A = none ∧ n = 0 ∧ c = 0 ∧ cs = []) ∨ ∃ g cur, A = some ⟨g, 0, none⟩ ∧ lo ≤ g ∧ g < hi ∧ w.heap[g]? = some (.cells cur e (0, 0)) ∧ n ≤ c ∧ c ≤ maxLen ∧ cur.size = c * sz ∧ cur.toList.take (n * sz) = cs := by
  obtain ⟨⟨h1, h2⟩, h3⟩ := h
  rcases h2 with ⟨h2, h4⟩ | ⟨g, cap, cur, h4, h5, h6, h7, h8, h9, h10⟩
  · injection h2 with h2 h5 h6
    subst h2 h4 h6
    exact .inl ⟨rfl, rfl, rfl, List.eq_nil_of_length_eq_zero (by simpa using h1)⟩
  · injection h4 with h4 _ h11
    subst h4 h11
    exact .inr ⟨g, cur, rfl, h5, h3 _ rfl, h6, h7, h8, h9, h10⟩
theorem OwnC.cell (h : OwnC w lo hi e sz A n c cs) {j : Nat} (hj : j < cs.length) : ∃ g, A = some ⟨g, 0, none⟩ ∧ lo ≤ g ∧ g < hi ∧ w.cell? ⟨g, j, none⟩ = some cs[j] ∧ w.frozen? ⟨g, j, none⟩ = false := by
  rcases h.form with ⟨_, _, _, rfl⟩ | ⟨g, cur, rfl, h1, h2, h3, h4, h5, h6, h7⟩
  · simp at hj
  · refine ⟨g, rfl, h1, h2, ?_, frozen_of_row w g j cur e h3⟩
    have hl : j < n * sz := by rw [← h.len]; exact hj
    have := h.own.cellAt j hl
    rw [this, List.getElem?_eq_getElem hj]
theorem OwnC.keep (h : OwnC w lo hi e sz A n c cs) (hk : ∀ k, lo ≤ k → k < hi → k < w.heap.size → w'.heap[k]? = w.heap[k]?) : OwnC w' lo hi e sz A n c cs := by
  refine ⟨⟨h.own.1, ?_⟩, h.lt⟩
  rcases h.own.2 with h2 | ⟨g, cap, cur, h4, h5, h6, h7⟩
  · exact .inl h2
  · injection h4 with h4 hn h11
    subst h4 h11
    have hlt : g < hi := h.lt _ rfl
    exact .inr ⟨g, c, cur, rfl, h5, by rw [hk g h5 hlt (Array.getElem?_eq_some_iff.1 h6).1]; exact h6, h7⟩
theorem OwnC.below {B : Nat} (h : OwnC w lo hi e sz A n c cs) (hb : Below B w w') (hB : hi ≤ B) : OwnC w' lo hi e sz A n c cs :=
  h.keep fun k _ h2 _ => hb.block k (by omega)
theorem OwnC.upd {l2 h2 : Nat} (h : OwnC w lo hi e sz A n c cs) (hb : Upd l2 h2 w w') (hB : hi ≤ l2 ∨ h2 ≤ lo) : OwnC w' lo hi e sz A n c cs :=
  h.keep fun k h3 h4 h5 => hb.block k h5 (by omega)
theorem OwnC.mono {lo' hi' : Nat} (h : OwnC w lo hi e sz A n c cs) (h1 : lo' ≤ lo) (h2 : hi ≤ hi') : OwnC w lo' hi' e sz A n c cs := by
  refine ⟨⟨h.own.1, ?_⟩, fun a ha => Nat.lt_of_lt_of_le (h.lt a ha) h2⟩
  rcases h.own.2 with h3 | ⟨g, cap, cur, h4, h5, h6⟩
  · exact .inl h3
  · exact .inr ⟨g, cap, cur, h4, by omega, h6⟩
theorem OwnC.of_own (h : w.ownsRow lo e sz (.slice A n c) n cs) (hhi : w.heap.size ≤ hi) : OwnC w lo hi e sz A n c cs :=
  ⟨h, fun a ha => by subst ha; have := h.lt a.block rfl; omega⟩
theorem OwnC.far (h : OwnC w lo hi e sz A n c cs) {p : Addr} (hp : p.block < lo ∨ hi ≤ p.block) (u : Value) : OwnC (w.setCell p u) lo hi e sz A n c cs :=
  h.keep fun k h2 h3 _ => Below.heap_setCell w p u k (by omega)
theorem OwnC.alloc (h : OwnC w lo hi e sz A n c cs) (o : Obj) : OwnC (w.alloc o) lo hi e sz A n c cs :=
  h.keep fun k _ _ h4 => Below.heap_alloc w o k h4
theorem OwnC.drewN (h : OwnC w lo hi e sz A n c cs) (k : Nat) : OwnC (w.drewN k) lo hi e sz A n c cs := h.keep fun _ _ _ _ => rfl
/-- A store into the row. -/
theorem OwnC.store {g j : Nat} (h : OwnC w lo hi e sz (some ⟨g, 0, none⟩) n c cs) (u : Value) :
    OwnC (w.setCell ⟨g, j, none⟩ u) lo hi e sz (some ⟨g, 0, none⟩) n c (cs.set j u) ∧ w.grownBy (w.setCell ⟨g, j, none⟩ u) (some g) :=
  ⟨⟨(h.own.stored j u).1, h.lt⟩, (h.own.stored j u).2⟩
end

/-- A slice of numbers that is the call's own. -/
abbrev OwnI (w : World) (lo hi : Nat) (A : Option Addr) (c : Nat) (xs : List Int) : Prop := OwnC w lo hi 2 1 A xs.length c (xs.map (Value.int .i64))

theorem OwnC.ints {w : World} {lo hi n : Nat} {A : Option Addr} {c : Nat} {xs : List Int} (h : OwnC w lo hi 2 1 A n c (xs.map (Value.int .i64))) : Ints w A xs := by
  intro k hk
  obtain ⟨g, hA, _, _, hc, _⟩ := h.cell (j := k) (by simpa using hk)
  exact ⟨g, 0, xs[k], hA, by simp only [Nat.zero_add, hc]; simp, List.getElem?_eq_getElem hk⟩

theorem info_int64 : (Tryz.prog.info? 2).map (fun i => (i.zero, i.size, i.bytes)) = some (some (.int .i64 0), 1, 8) := by kernel_rfl

theorem ret_bool {a b : Bool} (h : a = b) : Ending.returned (.bool a) = .returned (.bool b) := by rw [h]
theorem ret_int {k : IntKind} {a b : Int} (h : a = b) : Ending.returned (.int k a) = .returned (.int k b) := by rw [h]
theorem int_eq {k : IntKind} {a b : Int} (h : a = b) : Value.int k a = .int k b := by rw [h]
theorem bool_eq {a b : Bool} (h : a = b) : Value.bool a = .bool b := by rw [h]

theorem drew2 (w : World) (n k : Nat) : ∃ m, (w.drewN n).drewN k = w.drewN m := ⟨n + k, by simp⟩
theorem take_snoc {α : Type} {xs : List α} {k : Nat} {x : α} (h : xs[k]? = some x) : xs.take (k + 1) = xs.take k ++ [x] := by
  rw [List.take_add_one, h]; rfl
theorem take_all {α : Type} {xs : List α} {k : Nat} (h : xs.length ≤ k) : xs.take k = xs := List.take_of_length_le h
theorem take_set_succ {α : Type} (cs : List α) (k : Nat) (u : α) (hk : k < cs.length) : (cs.set k u).take (k + 1) = cs.take k ++ [u] := by
  rw [List.take_succ_eq_append_getElem (by simpa using hk), List.take_set_of_le (Nat.le_refl k)]
  simp
theorem ne_of_getElem? {α : Type} {xs ys : List α} {k : Nat} {x y : α} (h : xs[k]? = some x) (h' : ys[k]? = some y) (hne : x ≠ y) : xs ≠ ys := by
  rintro rfl; rw [h] at h'; exact hne (by injection h')
theorem any_true_at {α : Type} {xs : List α} {k : Nat} {x : α} {p : α → Bool} (h : xs[k]? = some x) (hp : p x = true) : xs.any p = true :=
  List.any_eq_true.2 ⟨x, List.mem_of_getElem? h, hp⟩
theorem all_false_at {α : Type} {xs : List α} {k : Nat} {x : α} {p : α → Bool} (h : xs[k]? = some x) (hp : p x = false) : xs.all p = false :=
  List.all_eq_false.2 ⟨x, List.mem_of_getElem? h, by simp [hp]⟩

/-- Block g holds just these cells. -/
def Blk (w : World) (g : Nat) (t : TypeId) (cs : Array Value) : Prop := w.heap[g]? = some (.cells cs t (0, 0))
section
variable {w w' : World} {g : Nat} {t : TypeId} {cs : Array Value}
theorem Blk.lt (h : Blk w g t cs) : g < w.heap.size := by
  rcases Nat.lt_or_ge g w.heap.size with hlt | hge
  · exact hlt
  · unfold Blk at h; rw [Array.getElem?_eq_none hge] at h; cases h
theorem Blk.cell (h : Blk w g t cs) (i : Nat) : w.cell? ⟨g, i, none⟩ = cs[i]? := cell_of_row w g i cs t (0, 0) h
theorem Blk.frozen (h : Blk w g t cs) (i : Nat) : w.frozen? ⟨g, i, none⟩ = false := by
  unfold Blk at h
  simp [World.frozen?, h]
theorem Blk.new (w : World) (t : TypeId) (cs : Array Value) : Blk (w.alloc (.cells cs t)) w.heap.size t cs := heap_alloc_new w _
theorem Blk.alloc (h : Blk w g t cs) (o : Obj) : Blk (w.alloc o) g t cs := (Below.heap_alloc w o g h.lt).trans h
theorem Blk.drewN (h : Blk w g t cs) (n : Nat) : Blk (w.drewN n) g t cs := h
theorem Blk.far (h : Blk w g t cs) {p : Addr} (hp : g ≠ p.block) (u : Value) : Blk (w.setCell p u) g t cs := (Below.heap_setCell w p u g hp).trans h
theorem Blk.below {B : Nat} (h : Blk w g t cs) (hb : Below B w w') (hg : g < B) : Blk w' g t cs := (hb.block g hg).trans h
theorem Blk.upd {lo hi : Nat} (h : Blk w g t cs) (hb : Upd lo hi w w') (hg : g < lo ∨ hi ≤ g) : Blk w' g t cs := (hb.block g h.lt hg).trans h
theorem Blk.c1 {a : Value} (h : Blk w g t #[a]) : w.cell? ⟨g, 0, none⟩ = some a := h.cell 0
theorem Blk.c2 {a b : Value} (h : Blk w g t #[a, b]) : w.cell? ⟨g, 0, none⟩ = some a ∧ w.cell? ⟨g, 1, none⟩ = some b := ⟨h.cell 0, h.cell 1⟩
theorem Blk.c3 {a b c : Value} (h : Blk w g t #[a, b, c]) : w.cell? ⟨g, 0, none⟩ = some a ∧ w.cell? ⟨g, 1, none⟩ = some b ∧ w.cell? ⟨g, 2, none⟩ = some c := ⟨h.cell 0, h.cell 1, h.cell 2⟩
end
theorem take_set3 {α : Type} (cs : List α) (k m : Nat) (hm : m = k + 3) (hk : m ≤ cs.length) (u0 u1 u2 : α) : ((((cs.set (k) u0).set (k + 1) u1).set (k + 2) u2)).take m = cs.take k ++ [u0, u1, u2] := by
  subst hm
  rw [take_set_succ _ (k + 2) _ (by simp only [List.length_set]; omega), take_set_succ _ (k + 1) _ (by simp only [List.length_set]; omega), take_set_succ _ k _ (by omega)]
  simp
theorem take_set4 {α : Type} (cs : List α) (k m : Nat) (hm : m = k + 4) (hk : m ≤ cs.length) (u0 u1 u2 u3 : α) : (((((cs.set (k) u0).set (k + 1) u1).set (k + 2) u2).set (k + 3) u3)).take m = cs.take k ++ [u0, u1, u2, u3] := by
  subst hm
  rw [take_set_succ _ (k + 3) _ (by simp only [List.length_set]; omega), take_set_succ _ (k + 2) _ (by simp only [List.length_set]; omega), take_set_succ _ (k + 1) _ (by simp only [List.length_set]; omega), take_set_succ _ k _ (by omega)]
  simp
theorem take_set6 {α : Type} (cs : List α) (k m : Nat) (hm : m = k + 6) (hk : m ≤ cs.length) (u0 u1 u2 u3 u4 u5 : α) : (((((((cs.set (k) u0).set (k + 1) u1).set (k + 2) u2).set (k + 3) u3).set (k + 4) u4).set (k + 5) u5)).take m = cs.take k ++ [u0, u1, u2, u3, u4, u5] := by
  subst hm
  rw [take_set_succ _ (k + 5) _ (by simp only [List.length_set]; omega), take_set_succ _ (k + 4) _ (by simp only [List.length_set]; omega), take_set_succ _ (k + 3) _ (by simp only [List.length_set]; omega), take_set_succ _ (k + 2) _ (by simp only [List.length_set]; omega), take_set_succ _ (k + 1) _ (by simp only [List.length_set]; omega), take_set_succ _ k _ (by omega)]
  simp

end Go.Proofs.YthjamohaeahipaaGreat

/- The plain functions that the program's functions compute, in Lean, with no program in sight. -/
namespace Go.Proofs.YthjamohaeahipaaGreat
open Go.RowKit

def inR (n lo hi : Int) : Bool := decide (lo ≤ n) && decide (n ≤ hi)
theorem inR_iff {n lo hi : Int} : inR n lo hi = true ↔ lo ≤ n ∧ n ≤ hi := by simp [inR]
def szLeft (l n : Int) : Int := if l < n then -1 else l - n
def sum64 (xs : List Int) : Int := xs.foldl (fun s x => wrap64 (s + x)) 0
theorem sum64_snoc (xs : List Int) (x : Int) : sum64 (xs ++ [x]) = wrap64 (sum64 xs + x) := by simp [sum64]
def isStitchB (k : Int) : Bool := inR k 1 11
def stacksB (xs : List Int) : Bool := xs.all (inR · 1 4) && decide (xs.length ≤ 8)
def sizesB (xs : List Int) : Bool := decide (0 < xs.length) && stacksB xs && decide (sum64 xs ≤ 12)
def stitchesB (xs : List Int) : Bool := xs.all isStitchB && decide (xs.length ≤ 16)
def dirB (d : Int) : Bool := d == 1 || d == -1
def carrierB (c : Int) : Bool := inR c 1 4
/-- The index of the first number with p, or -1. -/
def indexB (p : Int → Bool) : List Int → Int → Int
  | [], _ => -1
  | x :: xs, k => if p x then k else indexB p xs (k + 1)
/-- The call hands back a number with P. -/
def AnyInt (P : Int → Prop) (e : Ending) : Prop := ∃ k, e = .returned (.int .i64 k) ∧ P k
theorem ret_ib {p : Int × Bool} {a : Int} {b : Bool} (h : p = (a, b)) : Ending.returned (.tuple #[.int .i64 a, .bool b]) = .returned (.tuple #[.int .i64 p.1, .bool p.2]) := by rw [h]
def firstOfP (xs : List Int) (col : Int) : Int × Bool := if sizesB xs && inR col 0 ((xs.length : Int) - 1) then (sum64 (xs.take col.toNat), true) else (0, false)
def colAt : List Int → Int → Int → Int × Bool
  | [], _, _ => (0, false)
  | x :: xs, s, i => if s < x then (i, true) else colAt xs (wrap64 (s - x)) (i + 1)
def columnAtP (xs : List Int) (s : Int) : Int × Bool := if !sizesB xs || decide (s < 0) then (0, false) else colAt xs s 0
theorem drop_cons {α : Type} {xs : List α} {k : Nat} {x : α} (h : xs[k]? = some x) : xs.drop k = x :: xs.drop (k + 1) := by
  obtain ⟨hk, rfl⟩ := List.getElem?_eq_some_iff.1 h
  exact List.drop_eq_getElem_cons hk
theorem drop_all {α : Type} {xs : List α} {k : Nat} (h : xs.length ≤ k) : xs.drop k = [] := List.drop_eq_nil_of_le h
def rowB (d r : Int) (xs : List Int) : Bool := dirB d && carrierB r && stitchesB xs

end Go.Proofs.YthjamohaeahipaaGreat

/- Arguments of the laws, opened. -/
namespace Go.Proofs.YthjamohaeahipaaGreat
open Go.ChangeShapes Go.WideShapes Go.ChangeAt Go.RowKit
open Go.ChangeMaps (open_string shut_string)

theorem own : ownKnob Tryz.prog.godebug = none := by kernel_rfl
theorem laidOut : laidOutB Tryz.prog = true := by kernel_rfl

theorem addr_of_cell {w : World} {x : Addr} {v : Value} (h : w.cell? x = some v) : x = ⟨x.block, x.off, none⟩ := by
  obtain ⟨b, o, s⟩ := x
  cases s with
  | none => rfl
  | some s =>
    unfold World.cell? at h
    split at h <;> simp at h

theorem add_form {b o : Nat} (i : Nat) : (⟨b, o, none⟩ : Addr).add i = ⟨b, o + i, none⟩ := by
  unfold Addr.add
  split <;> simp_all

theorem one_cell {cs : List Value} {i : Nat} {v : Value} (h : (cs.drop i).take 1 = [v]) : cs[i]? = some v := by
  have := congrArg (fun l => l[0]?) h
  simpa [List.getElem?_take, List.getElem?_drop] using this

section
variable {H : Type} {enc : TypeId × Value → H} {W : World} {base : Nat} {v : Value} {d : DataW H} {p : List MemPlace} {fuel : Nat} {cs : List Value} {x : DataW H × List MemPlace} {b0 : Nat}
theorem trod_ints (h : DataW.trod enc Tryz.prog W b0 (fun _ => true) true fuel 24 cs = some x) :
    ∃ A c xs, cs = [.slice A xs.length c] ∧ Ints W A xs ∧ xs.length ≤ 9223372036854775807 := by
  rcases open_ints Tryz.underlying24 Tryz.underlying2 (by kernel_rfl) h with ⟨hcs, _⟩ | ⟨x, n, c, zs, hcs, _, hl, hm, hz, _, hcell, hwz⟩
  · exact ⟨none, 0, [], hcs, Ints.nil, by rw [List.length_nil]; omega⟩
  · have hz' : zs.length = c := by simpa using hz
    have hlen : (zs.take n).length = n := by rw [List.length_take]; omega
    refine ⟨some x, c, zs.take n, by rw [hlen]; exact hcs, fun k hk => ?_, by rw [hlen]; unfold maxLen at hm; omega⟩
    have hk' : k < n := by omega
    have h0 := hcell 0 (by omega)
    rw [show x.add 0 = x by simp [Addr.add]] at h0
    have hx := addr_of_cell h0
    refine ⟨x.block, x.off, zs[k]'(by omega), by rw [← hx], ?_, ?_⟩
    · have := hcell k (by omega)
      rw [hx, add_form] at this
      rw [this]
      simp [show k < zs.length by omega]
    · rw [List.getElem?_take, if_pos hk', List.getElem?_eq_getElem]
set_option maxRecDepth 100000 in
theorem open_Ints (hv : Value.okWide Tryz.prog W .any base 24 v) (h : DataW.Trod enc Tryz.prog W 0 (fun _ => true) true 24 v d p) :
    ∃ A c xs, v = .slice A xs.length c ∧ Ints W A xs ∧ xs.length ≤ 9223372036854775807 := by
  obtain ⟨A, n, c, rfl⟩ := okWide_slice Tryz.underlying24 hv
  obtain ⟨fuel, hf⟩ := h
  obtain ⟨A', c', xs, hcs, hi, hl⟩ := trod_ints hf
  simp [Value.cells] at hcs
  obtain ⟨rfl, rfl, rfl⟩ := hcs
  exact ⟨_, _, _, rfl, hi, hl⟩
set_option maxRecDepth 100000 in
theorem open_Str (hv : Value.okWide Tryz.prog W .any base 9 v) (h : DataW.Trod enc Tryz.prog W 0 (fun _ => true) true 9 v d p) : ∃ s : ByteArray, v = .string s ∧ s.size ≤ 9223372036854775807 := by
  obtain ⟨s, hs, _, _, hl⟩ := open_string Tryz.underlying9 hv h
  exact ⟨s, hs, hl⟩

end

end Go.Proofs.YthjamohaeahipaaGreat

/- The helpers of the laws on slices of numbers. -/
namespace Go.Proofs.YthjamohaeahipaaGreat
open Go.RowKit

theorem spec_l00Same (A B : Option Addr) (c d : Nat) (xs ys : List Int) (w : World) (h : Ints w A xs) (h' : Ints w B ys) (hl : xs.length ≤ 9223372036854775807) (_hl' : ys.length ≤ 9223372036854775807) :
    Calls Tryz.prog 99 #[.slice A xs.length c, .slice B ys.length d] w fun e w' => e = .returned (.bool (decide (xs = ys))) ∧ ∃ n, w' = w.drewN n := by
  by_cases hle : xs.length = ys.length
  · have HL := Lib.hid hle
    have hle' : ((xs.length : Int) != (ys.length : Int)) = false := by simp [hle]
    clear hle
    go_enter Tryz.func99, Tryz.ntmps99
    go_wp2
    go_loopw [5] (fun i wr => ∃ (k : Nat), k ≤ xs.length ∧ i = .int .i64 k ∧ xs.take k = ys.take k ∧ ∃ n, wr = w.drewN n) (fun i _ => xs.length - (intOf i).toNat)
    case atStart => exact ⟨0, Nat.zero_le _, rfl, rfl, 0, rfl⟩
    case round =>
      obtain ⟨k, hk, rfl, htk, n, rfl⟩ := hrel
      have HT := Lib.hid htk; clear htk
      by_cases hlt : k < xs.length
      · have hlt' : k < ys.length := by rw [← HL.out]; exact hlt
        obtain ⟨b, off, x, rfl, hc, hx⟩ := h k hlt
        obtain ⟨b', off', y, rfl, hc', hy⟩ := h' k hlt'
        by_cases hxy : x = y
        · subst hxy
          go_wp2
          go_quiet (fail)
          go_wp2
          go_roundw
          case rel => exact ⟨k + 1, by omega, by go_num, by rw [take_snoc hx, take_snoc hy, HT.out], (by first | exact drew2 _ _ _ | exact ⟨_, rfl⟩)⟩
          case measure => simp [intOf]; omega
        · have hxy' : (x != y) = true := by simpa using hxy
          go_wp2
          go_quiet (fail)
          go_wp2
          go_ret
          exact ⟨ret_bool (by simpa using ne_of_getElem? hx hy hxy), (by first | exact drew2 _ _ _ | exact ⟨_, rfl⟩)⟩
      · go_wp2
        go_ret
        have : k = xs.length := by omega
        subst this
        have e := HT.out
        rw [take_all (Nat.le_refl _), take_all (by rw [HL.out]; exact Nat.le_refl _)] at e
        exact ⟨ret_bool (by simpa using e), _, rfl⟩
  · have hle' : ((xs.length : Int) != (ys.length : Int)) = true := by simp; omega
    go_enter Tryz.func99, Tryz.ntmps99
    go_wp2
    go_ret
    exact ⟨ret_bool (by simp; intro e; exact hle (by rw [e])), 0, rfl⟩

theorem spec_l00In (n lo hi : Int) (w : World) : Calls Tryz.prog 30 #[.int .i64 n, .int .i64 lo, .int .i64 hi] w fun e w' => e = .returned (.bool (inR n lo hi)) ∧ w = w' := by
  unfold inR
  by_cases h1 : lo ≤ n
  · go_enter Tryz.func30, Tryz.ntmps30
    go_wp2
    go_ret
    exact ⟨by simp [h1], rfl⟩
  · go_enter Tryz.func30, Tryz.ntmps30
    go_wp2
    go_ret
    exact ⟨by simp; omega, rfl⟩

theorem impl_within (n lo hi : Int) (w : World) : Calls Tryz.prog 22 #[.int .i64 n, .int .i64 lo, .int .i64 hi] w fun e w' => e = .returned (.bool (inR n lo hi)) ∧ w = w' := by
  unfold inR
  by_cases h1 : lo ≤ n
  · go_enter Tryz.func22, Tryz.ntmps22
    go_wp2
    go_ret
    exact ⟨by simp [h1], rfl⟩
  · go_enter Tryz.func22, Tryz.ntmps22
    go_wp2
    go_ret
    exact ⟨by simp; omega, rfl⟩

theorem spec_l17Sum (A : Option Addr) (c : Nat) (xs : List Int) (w : World) (h : Ints w A xs) (hl : xs.length ≤ 9223372036854775807) : Calls Tryz.prog 42 #[.slice A xs.length c] w fun e w' => e = .returned (.int .i64 (sum64 xs)) ∧ w = w' := by
  go_enter Tryz.func42, Tryz.ntmps42
  go_wp2
  go_loop [3, 4] (fun s i => ∃ k : Nat, k ≤ xs.length ∧ i = .int .i64 k ∧ s = .int .i64 (sum64 (xs.take k))) (fun _ i => xs.length - (intOf i).toNat)
  case atStart => exact ⟨0, Nat.zero_le _, rfl, rfl⟩
  case round =>
    obtain ⟨k, hk, rfl, rfl⟩ := hrel
    by_cases hlt : k < xs.length
    · obtain ⟨b, off, x, rfl, hc, hx⟩ := h k hlt
      have HX := Lib.hid hx; clear hx
      go_wp2
      go_round
      case rel => exact ⟨k + 1, by omega, by go_num, by rw [take_snoc HX.out, sum64_snoc]⟩
      case measure => simp [intOf]; omega
    · go_wp2
      go_ret
      exact ⟨ret_int (by rw [take_all (by omega)]), rfl⟩

theorem impl_sumOf (A : Option Addr) (c : Nat) (xs : List Int) (w : World) (h : Ints w A xs) (hl : xs.length ≤ 9223372036854775807) : Calls Tryz.prog 20 #[.slice A xs.length c] w fun e w' => e = .returned (.int .i64 (sum64 xs)) ∧ w = w' := by
  go_enter Tryz.func20, Tryz.ntmps20
  go_wp2
  go_loop [3, 8] (fun s i => ∃ k : Nat, k ≤ xs.length ∧ i = .int .i64 k ∧ s = .int .i64 (sum64 (xs.take k))) (fun _ i => xs.length - (intOf i).toNat)
  case atStart => exact ⟨0, Nat.zero_le _, rfl, rfl⟩
  case round =>
    obtain ⟨k, hk, rfl, rfl⟩ := hrel
    by_cases hlt : k < xs.length
    · obtain ⟨b, off, x, rfl, hc, hx⟩ := h k hlt
      have HX := Lib.hid hx; clear hx
      go_wp2
      go_round
      case rel => exact ⟨k + 1, by omega, by go_num, by rw [take_snoc HX.out, sum64_snoc]⟩
      case measure => simp [intOf]; omega
    · go_wp2
      go_ret
      exact ⟨ret_int (by rw [take_all (by omega)]), rfl⟩

theorem impl_isStitch (n : Int) (w : World) : Calls Tryz.prog 70 #[.int .i64 n] w fun e w' => e = .returned (.bool (isStitchB n)) ∧ w = w' := by
  go_enter Tryz.func70, Tryz.ntmps70
  go_wp2_with (first | (refine (impl_within _ _ _ _).mono ?_; rintro e w' ⟨rfl, rfl⟩) | (refine (spec_l00In _ _ _ _).mono ?_; rintro e w' ⟨rfl, rfl⟩))
  go_ret
  exact ⟨rfl, rfl⟩

theorem spec_l14Kind (n : Int) (w : World) : Calls Tryz.prog 79 #[.int .i64 n] w fun e w' => e = .returned (.bool (isStitchB n)) ∧ w = w' := by
  go_enter Tryz.func79, Tryz.ntmps79
  go_wp2_with (first | (refine (impl_within _ _ _ _).mono ?_; rintro e w' ⟨rfl, rfl⟩) | (refine (spec_l00In _ _ _ _).mono ?_; rintro e w' ⟨rfl, rfl⟩))
  go_ret
  exact ⟨rfl, rfl⟩

theorem impl_isCarrier (n : Int) (w : World) : Calls Tryz.prog 44 #[.int .i64 n] w fun e w' => e = .returned (.bool (carrierB n)) ∧ w = w' := by
  go_enter Tryz.func44, Tryz.ntmps44
  go_wp2_with (first | (refine (impl_within _ _ _ _).mono ?_; rintro e w' ⟨rfl, rfl⟩) | (refine (spec_l00In _ _ _ _).mono ?_; rintro e w' ⟨rfl, rfl⟩))
  go_ret
  exact ⟨rfl, rfl⟩

theorem spec_l07Yarn (n : Int) (w : World) : Calls Tryz.prog 58 #[.int .i64 n] w fun e w' => e = .returned (.bool (carrierB n)) ∧ w = w' := by
  go_enter Tryz.func58, Tryz.ntmps58
  go_wp2_with (first | (refine (impl_within _ _ _ _).mono ?_; rintro e w' ⟨rfl, rfl⟩) | (refine (spec_l00In _ _ _ _).mono ?_; rintro e w' ⟨rfl, rfl⟩))
  go_ret
  exact ⟨rfl, rfl⟩

theorem impl_isDirection (n : Int) (w : World) : Calls Tryz.prog 43 #[.int .i64 n] w fun e w' => e = .returned (.bool (dirB n)) ∧ w = w' := by
  unfold dirB
  by_cases h1 : n = 1
  · subst h1
    go_enter Tryz.func43, Tryz.ntmps43
    go_wp2
    go_ret
    exact ⟨rfl, rfl⟩
  · go_enter Tryz.func43, Tryz.ntmps43
    go_wp2
    go_ret
    exact ⟨by simp, rfl⟩

theorem spec_l07Dir (n : Int) (w : World) : Calls Tryz.prog 59 #[.int .i64 n] w fun e w' => e = .returned (.bool (dirB n)) ∧ w = w' := by
  unfold dirB
  by_cases h1 : n = 1
  · subst h1
    go_enter Tryz.func59, Tryz.ntmps59
    go_wp2
    go_ret
    exact ⟨rfl, rfl⟩
  · go_enter Tryz.func59, Tryz.ntmps59
    go_wp2
    go_ret
    exact ⟨by simp, rfl⟩

theorem impl_areStacks_1 (n : Int) (w : World) : Calls Tryz.prog 40 #[.int .i64 n] w fun e w' => e = .returned (.bool (!inR n 1 4)) ∧ w = w' := by
  go_enter Tryz.func40, Tryz.ntmps40
  go_wp2_with (refine (impl_within _ _ _ _).mono ?_; rintro e w' ⟨rfl, rfl⟩)
  go_ret
  exact ⟨rfl, rfl⟩

theorem impl_areStitches_1 (n : Int) (w : World) : Calls Tryz.prog 69 #[.int .i64 n] w fun e w' => e = .returned (.bool (!isStitchB n)) ∧ w = w' := by
  go_enter Tryz.func69, Tryz.ntmps69
  go_wp2_with (refine (impl_isStitch _ _).mono ?_; rintro e w' ⟨rfl, rfl⟩)
  go_ret
  exact ⟨rfl, rfl⟩

theorem indexFunc_impl_areStacks_1 (A : Option Addr) (c : Nat) (xs : List Int) (w : World) (h : Ints w A xs) (hl : xs.length ≤ 9223372036854775807) : Calls Tryz.prog 68 #[.slice A xs.length c, .func (.func 40) #[] #[]] w fun e w' => AnyInt (fun k => decide (0 ≤ k) = xs.any (fun n => !inR n 1 4) ∧ k ≤ 9223372036854775807) e ∧ w = w' := by
  go_enter Tryz.func68, Tryz.ntmps68
  go_wp2
  go_loop [8] (fun i => ∃ k : Nat, k ≤ xs.length ∧ i = .int .i64 k ∧ (xs.take k).any (fun n => !inR n 1 4) = false) (fun i => xs.length - (intOf i).toNat)
  case atStart => exact ⟨0, Nat.zero_le _, rfl, rfl⟩
  case round =>
    obtain ⟨k, hk, rfl, ha⟩ := hrel
    have HA := Lib.hid ha; clear ha
    by_cases hlt : k < xs.length
    · obtain ⟨b, off, x, rfl, hc, hx⟩ := h k hlt
      have HX := Lib.hid hx; clear hx
      go_wp2_with (refine (impl_areStacks_1 _ _).mono ?_; rintro e w' ⟨rfl, rfl⟩)
      · have hq : ((fun n => !inR n 1 4) x) = true := by assumption
        go_ret
        refine ⟨⟨_, rfl, ?_, by omega⟩, rfl⟩
        rw [any_true_at HX.out hq]
        simp
      · have hq : ((fun n => !inR n 1 4) x) = false := by assumption
        go_round
        case rel => exact ⟨k + 1, by omega, by go_num, by rw [take_snoc HX.out, List.any_append, HA.out]; simpa using hq⟩
        case measure => simp [intOf]; omega
    · go_wp2
      go_ret
      refine ⟨⟨_, rfl, ?_, by omega⟩, rfl⟩
      have := HA.out
      rw [take_all (by omega)] at this
      rw [this]
      rfl

theorem indexFunc_impl_areStitches_1 (A : Option Addr) (c : Nat) (xs : List Int) (w : World) (h : Ints w A xs) (hl : xs.length ≤ 9223372036854775807) : Calls Tryz.prog 68 #[.slice A xs.length c, .func (.func 69) #[] #[]] w fun e w' => AnyInt (fun k => decide (0 ≤ k) = xs.any (fun n => !isStitchB n) ∧ k ≤ 9223372036854775807) e ∧ w = w' := by
  go_enter Tryz.func68, Tryz.ntmps68
  go_wp2
  go_loop [8] (fun i => ∃ k : Nat, k ≤ xs.length ∧ i = .int .i64 k ∧ (xs.take k).any (fun n => !isStitchB n) = false) (fun i => xs.length - (intOf i).toNat)
  case atStart => exact ⟨0, Nat.zero_le _, rfl, rfl⟩
  case round =>
    obtain ⟨k, hk, rfl, ha⟩ := hrel
    have HA := Lib.hid ha; clear ha
    by_cases hlt : k < xs.length
    · obtain ⟨b, off, x, rfl, hc, hx⟩ := h k hlt
      have HX := Lib.hid hx; clear hx
      go_wp2_with (refine (impl_areStitches_1 _ _).mono ?_; rintro e w' ⟨rfl, rfl⟩)
      · have hq : ((fun n => !isStitchB n) x) = true := by assumption
        go_ret
        refine ⟨⟨_, rfl, ?_, by omega⟩, rfl⟩
        rw [any_true_at HX.out hq]
        simp
      · have hq : ((fun n => !isStitchB n) x) = false := by assumption
        go_round
        case rel => exact ⟨k + 1, by omega, by go_num, by rw [take_snoc HX.out, List.any_append, HA.out]; simpa using hq⟩
        case measure => simp [intOf]; omega
    · go_wp2
      go_ret
      refine ⟨⟨_, rfl, ?_, by omega⟩, rfl⟩
      have := HA.out
      rw [take_all (by omega)] at this
      rw [this]
      rfl

theorem containsFunc_impl_areStacks_1 (A : Option Addr) (c : Nat) (xs : List Int) (w : World) (h : Ints w A xs) (hl : xs.length ≤ 9223372036854775807) : Calls Tryz.prog 39 #[.slice A xs.length c, .func (.func 40) #[] #[]] w fun e w' => e = .returned (.bool (xs.any (fun n => !inR n 1 4))) ∧ w = w' := by
  go_enter Tryz.func39, Tryz.ntmps39
  go_wp2_with (refine (indexFunc_impl_areStacks_1 _ _ _ _ h hl).mono ?_; rintro e w' ⟨⟨k, rfl, hk, hk'⟩, rfl⟩)
  go_ret
  exact ⟨rfl, rfl⟩

theorem containsFunc_impl_areStitches_1 (A : Option Addr) (c : Nat) (xs : List Int) (w : World) (h : Ints w A xs) (hl : xs.length ≤ 9223372036854775807) : Calls Tryz.prog 39 #[.slice A xs.length c, .func (.func 69) #[] #[]] w fun e w' => e = .returned (.bool (xs.any (fun n => !isStitchB n))) ∧ w = w' := by
  go_enter Tryz.func39, Tryz.ntmps39
  go_wp2_with (refine (indexFunc_impl_areStitches_1 _ _ _ _ h hl).mono ?_; rintro e w' ⟨⟨k, rfl, hk, hk'⟩, rfl⟩)
  go_ret
  exact ⟨rfl, rfl⟩

theorem impl_areStacks (A : Option Addr) (c : Nat) (xs : List Int) (w : World) (h : Ints w A xs) (hl : xs.length ≤ 9223372036854775807) : Calls Tryz.prog 19 #[.slice A xs.length c] w fun e w' => e = .returned (.bool (stacksB xs)) ∧ w = w' := by
  by_cases h8 : xs.length ≤ 8
  · have h8' : decide ((xs.length : Int) ≤ 8) = true := by simp; omega
    go_enter Tryz.func19, Tryz.ntmps19
    go_wp2_with (refine (containsFunc_impl_areStacks_1 _ _ _ _ h hl).mono ?_; rintro e w' ⟨rfl, rfl⟩)
    go_ret
    exact ⟨ret_bool (by rw [stacksB]; simp [h8, List.all_eq_not_any_not]), rfl⟩
  · have h8' : decide ((xs.length : Int) ≤ 8) = false := by simp; omega
    go_enter Tryz.func19, Tryz.ntmps19
    go_wp2_with (fail)
    go_ret
    exact ⟨ret_bool (by rw [stacksB]; simp [h8]), rfl⟩

theorem impl_areStitches (A : Option Addr) (c : Nat) (xs : List Int) (w : World) (h : Ints w A xs) (hl : xs.length ≤ 9223372036854775807) : Calls Tryz.prog 45 #[.slice A xs.length c] w fun e w' => e = .returned (.bool (stitchesB xs)) ∧ w = w' := by
  by_cases h8 : xs.length ≤ 16
  · have h8' : decide ((xs.length : Int) ≤ 16) = true := by simp; omega
    go_enter Tryz.func45, Tryz.ntmps45
    go_wp2_with (refine (containsFunc_impl_areStitches_1 _ _ _ _ h hl).mono ?_; rintro e w' ⟨rfl, rfl⟩)
    go_ret
    exact ⟨ret_bool (by rw [stitchesB]; simp [h8, List.all_eq_not_any_not]), rfl⟩
  · have h8' : decide ((xs.length : Int) ≤ 16) = false := by simp; omega
    go_enter Tryz.func45, Tryz.ntmps45
    go_wp2_with (fail)
    go_ret
    exact ⟨ret_bool (by rw [stitchesB]; simp [h8]), rfl⟩

theorem spec_l14Stacks (A : Option Addr) (c : Nat) (xs : List Int) (w : World) (h : Ints w A xs) (hl : xs.length ≤ 9223372036854775807) : Calls Tryz.prog 41 #[.slice A xs.length c] w fun e w' => e = .returned (.bool (stacksB xs)) ∧ w = w' := by
  go_enter Tryz.func41, Tryz.ntmps41
  go_wp2
  go_loop [3] (fun i => ∃ k : Nat, k ≤ xs.length ∧ i = .int .i64 k ∧ (xs.take k).all (fun n => inR n 1 4) = true) (fun i => xs.length - (intOf i).toNat)
  case atStart => exact ⟨0, Nat.zero_le _, rfl, rfl⟩
  case round =>
    obtain ⟨k, hk, rfl, ha⟩ := hrel
    have HA := Lib.hid ha; clear ha
    by_cases hlt : k < xs.length
    · obtain ⟨b, off, x, rfl, hc, hx⟩ := h k hlt
      have HX := Lib.hid hx; clear hx
      go_wp2_with (refine (spec_l00In _ _ _ _).mono ?_; rintro e w' ⟨rfl, rfl⟩)
      · have hq : ((fun n => inR n 1 4) x) = false := by simpa using (show (!((fun n => inR n 1 4) x)) = true by assumption)
        go_ret
        exact ⟨ret_bool (by rw [stacksB, all_false_at HX.out hq]; rfl), rfl⟩
      · have hq : ((fun n => inR n 1 4) x) = true := by simpa using (show (!((fun n => inR n 1 4) x)) = false by assumption)
        go_round
        case rel => exact ⟨k + 1, by omega, by go_num, by rw [take_snoc HX.out, List.all_append, HA.out]; simpa using hq⟩
        case measure => simp [intOf]; omega
    · have ha := HA.out
      rw [take_all (by omega)] at ha
      go_wp2
      go_ret
      exact ⟨ret_bool (by rw [stacksB, ha]; simp; constructor <;> intro <;> omega), rfl⟩

theorem spec_l14Ok (A : Option Addr) (c : Nat) (xs : List Int) (w : World) (h : Ints w A xs) (hl : xs.length ≤ 9223372036854775807) : Calls Tryz.prog 52 #[.slice A xs.length c] w fun e w' => e = .returned (.bool (stitchesB xs)) ∧ w = w' := by
  go_enter Tryz.func52, Tryz.ntmps52
  go_wp2
  go_loop [3] (fun i => ∃ k : Nat, k ≤ xs.length ∧ i = .int .i64 k ∧ (xs.take k).all isStitchB = true) (fun i => xs.length - (intOf i).toNat)
  case atStart => exact ⟨0, Nat.zero_le _, rfl, rfl⟩
  case round =>
    obtain ⟨k, hk, rfl, ha⟩ := hrel
    have HA := Lib.hid ha; clear ha
    by_cases hlt : k < xs.length
    · obtain ⟨b, off, x, rfl, hc, hx⟩ := h k hlt
      have HX := Lib.hid hx; clear hx
      go_wp2_with (refine (spec_l14Kind _ _).mono ?_; rintro e w' ⟨rfl, rfl⟩)
      · have hq : (isStitchB x) = false := by simpa using (show (!(isStitchB x)) = true by assumption)
        go_ret
        exact ⟨ret_bool (by rw [stitchesB, all_false_at HX.out hq]; rfl), rfl⟩
      · have hq : (isStitchB x) = true := by simpa using (show (!(isStitchB x)) = false by assumption)
        go_round
        case rel => exact ⟨k + 1, by omega, by go_num, by rw [take_snoc HX.out, List.all_append, HA.out]; simpa using hq⟩
        case measure => simp [intOf]; omega
    · have ha := HA.out
      rw [take_all (by omega)] at ha
      go_wp2
      go_ret
      exact ⟨ret_bool (by rw [stitchesB, ha]; simp; constructor <;> intro <;> omega), rfl⟩

theorem impl_ValidSizes (A : Option Addr) (c : Nat) (xs : List Int) (w : World) (h : Ints w A xs) (hl : xs.length ≤ 9223372036854775807) : Calls Tryz.prog 6 #[.slice A xs.length c] w fun e w' => e = .returned (.bool (sizesB xs)) ∧ w = w' := by
  by_cases h0 : 0 < xs.length
  · have h0' : decide ((0 : Int) < xs.length) = true := by simp; omega
    have h0'' : decide ((1 : Int) ≤ xs.length) = true := by simp; omega
    by_cases hs : stacksB xs = true
    · go_enter Tryz.func6, Tryz.ntmps6
      go_wp2_with (first | (refine (impl_areStacks _ _ _ _ h hl).mono ?_; rintro e w' ⟨rfl, rfl⟩) | (refine (impl_sumOf _ _ _ _ h hl).mono ?_; rintro e w' ⟨rfl, rfl⟩))
      go_ret
      exact ⟨ret_bool (by simp [sizesB, h0, hs]), rfl⟩
    · have hs' : stacksB xs = false := by simpa using hs
      go_enter Tryz.func6, Tryz.ntmps6
      go_wp2_with (first | (refine (impl_areStacks _ _ _ _ h hl).mono ?_; rintro e w' ⟨rfl, rfl⟩) | (refine (impl_sumOf _ _ _ _ h hl).mono ?_; rintro e w' ⟨rfl, rfl⟩))
      go_ret
      exact ⟨ret_bool (by simp [sizesB, hs']), rfl⟩
  · have h0' : decide ((0 : Int) < xs.length) = false := decide_eq_false (by omega)
    have h0'' : decide ((1 : Int) ≤ xs.length) = false := decide_eq_false (by omega)
    go_enter Tryz.func6, Tryz.ntmps6
    go_wp2_with (fail)
    go_ret
    exact ⟨ret_bool (by simp [sizesB, h0]), rfl⟩

theorem spec_l17Ok (A : Option Addr) (c : Nat) (xs : List Int) (w : World) (h : Ints w A xs) (hl : xs.length ≤ 9223372036854775807) : Calls Tryz.prog 21 #[.slice A xs.length c] w fun e w' => e = .returned (.bool (sizesB xs)) ∧ w = w' := by
  by_cases h0 : 0 < xs.length
  · have h0' : decide ((0 : Int) < xs.length) = true := by simp; omega
    have h0'' : decide ((1 : Int) ≤ xs.length) = true := by simp; omega
    by_cases hs : stacksB xs = true
    · go_enter Tryz.func21, Tryz.ntmps21
      go_wp2_with (first | (refine (spec_l14Stacks _ _ _ _ h hl).mono ?_; rintro e w' ⟨rfl, rfl⟩) | (refine (spec_l17Sum _ _ _ _ h hl).mono ?_; rintro e w' ⟨rfl, rfl⟩))
      go_ret
      exact ⟨ret_bool (by simp [sizesB, h0, hs]), rfl⟩
    · have hs' : stacksB xs = false := by simpa using hs
      go_enter Tryz.func21, Tryz.ntmps21
      go_wp2_with (first | (refine (spec_l14Stacks _ _ _ _ h hl).mono ?_; rintro e w' ⟨rfl, rfl⟩) | (refine (spec_l17Sum _ _ _ _ h hl).mono ?_; rintro e w' ⟨rfl, rfl⟩))
      go_ret
      exact ⟨ret_bool (by simp [sizesB, hs']), rfl⟩
  · have h0' : decide ((0 : Int) < xs.length) = false := decide_eq_false (by omega)
    have h0'' : decide ((1 : Int) ≤ xs.length) = false := decide_eq_false (by omega)
    go_enter Tryz.func21, Tryz.ntmps21
    go_wp2_with (fail)
    go_ret
    exact ⟨ret_bool (by simp [sizesB, h0]), rfl⟩

theorem spec_ValidSizes (A : Option Addr) (c : Nat) (xs : List Int) (w : World) (h : Ints w A xs) (hl : xs.length ≤ 9223372036854775807) : Calls Tryz.prog 7 #[.slice A xs.length c] w fun e w' => e = .returned (.bool (sizesB xs)) ∧ w = w' := by
  go_enter Tryz.func7, Tryz.ntmps7
  go_wp2_with (refine (spec_l17Ok _ _ _ _ h hl).mono ?_; rintro e w' ⟨rfl, rfl⟩)
  go_ret
  exact ⟨rfl, rfl⟩

end Go.Proofs.YthjamohaeahipaaGreat

/- Rows: the helpers of the laws. -/
namespace Go.Proofs.YthjamohaeahipaaGreat
open Go.RowKit

theorem bcell {B : Nat} {W w1 : World} (hb : Below B W w1) : (∀ b o, b < B → w1.cell? ⟨b, o, none⟩ = W.cell? ⟨b, o, none⟩) ∧ (∀ b o, b < B → w1.frozen? ⟨b, o, none⟩ = W.frozen? ⟨b, o, none⟩) :=
  ⟨fun b o h => hb.cell (p := ⟨b, o, none⟩) h, fun b o h => hb.frozen (p := ⟨b, o, none⟩) h⟩

theorem spec_l15Row (g o : Nat) (d r : Int) (A : Option Addr) (c : Nat) (xs : List Int) (w : World) (h : Ints w A xs) (hl : xs.length ≤ 9223372036854775807)
    (c0 : w.cell? ⟨g, o, none⟩ = some (.int .i64 d)) (c1 : w.cell? ⟨g, o + 1, none⟩ = some (.int .i64 r)) (c2 : w.cell? ⟨g, o + 2, none⟩ = some (.slice A xs.length c)) :
    Calls Tryz.prog 25 #[.pointer (some ⟨g, o, none⟩)] w fun e w' => e = .returned (.bool (rowB d r xs)) ∧ w = w' := by
  by_cases hd : dirB d = true
  · have HD := Lib.hid hd
    have hd1 : d = 1 ∨ ¬ d = 1 ∧ (d == -1) = true := by simp [dirB] at hd; by_cases e : d = 1 <;> simp_all
    clear hd
    by_cases hr : carrierB r = true
    · have hr' : inR r 1 4 = true := hr
      rcases hd1 with rfl | ⟨h1, h2⟩
      · go_enter Tryz.func25, Tryz.ntmps25
        go_wp2_with (first | (refine (spec_l00In _ _ _ _).mono ?_; rintro e _ ⟨rfl, rfl⟩) | (refine (spec_l14Ok _ _ _ _ h hl).mono ?_; rintro e _ ⟨rfl, rfl⟩))
        go_ret
        exact ⟨ret_bool (by simp [rowB, HD.out, hr]), rfl⟩
      · have h1' : (d == 1) = false := by simpa using h1
        go_enter Tryz.func25, Tryz.ntmps25
        go_wp2_with (first | (refine (spec_l00In _ _ _ _).mono ?_; rintro e _ ⟨rfl, rfl⟩) | (refine (spec_l14Ok _ _ _ _ h hl).mono ?_; rintro e _ ⟨rfl, rfl⟩))
        go_ret
        exact ⟨ret_bool (by simp [rowB, HD.out, hr]), rfl⟩
    · have hr' : inR r 1 4 = false := by simpa [carrierB] using hr
      have hr2 : carrierB r = false := hr'
      clear hr
      rcases hd1 with rfl | ⟨h1, h2⟩
      · go_enter Tryz.func25, Tryz.ntmps25
        go_wp2_with (first | (refine (spec_l00In _ _ _ _).mono ?_; rintro e _ ⟨rfl, rfl⟩) | (refine (spec_l14Ok _ _ _ _ h hl).mono ?_; rintro e _ ⟨rfl, rfl⟩))
        go_ret
        exact ⟨ret_bool (by simp [rowB, hr2]), rfl⟩
      · have h1' : (d == 1) = false := by simpa using h1
        go_enter Tryz.func25, Tryz.ntmps25
        go_wp2_with (first | (refine (spec_l00In _ _ _ _).mono ?_; rintro e _ ⟨rfl, rfl⟩) | (refine (spec_l14Ok _ _ _ _ h hl).mono ?_; rintro e _ ⟨rfl, rfl⟩))
        go_ret
        exact ⟨ret_bool (by simp [rowB, hr2]), rfl⟩
  · have hd' : dirB d = false := by simpa using hd
    have h1 : (d == 1) = false := by simp [dirB] at hd; simpa using hd.1
    have h2 : (d == -1) = false := by simp [dirB] at hd; simpa using hd.2
    clear hd
    go_enter Tryz.func25, Tryz.ntmps25
    go_wp2_with (fail)
    go_ret
    exact ⟨ret_bool (by simp [rowB, hd']), rfl⟩

theorem impl_ValidRow (d r : Int) (A : Option Addr) (c : Nat) (xs : List Int) (w : World) (h : Ints w A xs) (hl : xs.length ≤ 9223372036854775807) :
    Calls Tryz.prog 23 #[.agg #[.int .i64 d, .int .i64 r, .slice A xs.length c]] w fun e w' => e = .returned (.bool (rowB d r xs)) ∧ Below w.heap.size w w' := by
  by_cases hd : dirB d = true
  · by_cases hr : carrierB r = true
    · go_enter Tryz.func23, Tryz.ntmps23
      go_wp2_with (fail)
      refine (impl_isDirection _ _).mono ?_; rintro e _ ⟨rfl, rfl⟩
      go_wp2_with (fail)
      refine (impl_isCarrier _ _).mono ?_; rintro e _ ⟨rfl, rfl⟩
      go_wp2_with (fail)
      refine (impl_areStitches A c xs _ (Ints.below h ?hb) hl).mono ?_
      case hb => (repeat (first | exact Below.refl _ _ | assumption | apply Below.drew | apply below_drewN | (refine Below.alloc ?_ (by first | omega | (simp; done) | (simp; omega)) _) | (refine Below.setCell ?_ (by first | omega | (simp; done) | (simp; omega)) _)))
      rintro e _ ⟨rfl, rfl⟩
      go_wp2_with (fail)
      go_ret
      exact ⟨ret_bool (by simp [rowB, hd, hr]), by (repeat (first | exact Below.refl _ _ | assumption | apply Below.drew | apply below_drewN | (refine Below.alloc ?_ (by first | omega | (simp; done) | (simp; omega)) _) | (refine Below.setCell ?_ (by first | omega | (simp; done) | (simp; omega)) _)))⟩
    · have hr' : carrierB r = false := by simpa using hr
      clear hr
      go_enter Tryz.func23, Tryz.ntmps23
      go_wp2_with (first | (refine (impl_isDirection _ _).mono ?_; rintro e _ ⟨rfl, rfl⟩) | (refine (impl_isCarrier _ _).mono ?_; rintro e _ ⟨rfl, rfl⟩))
      go_ret
      exact ⟨ret_bool (by simp [rowB, hr']), by (repeat (first | exact Below.refl _ _ | assumption | apply Below.drew | apply below_drewN | (refine Below.alloc ?_ (by first | omega | (simp; done) | (simp; omega)) _) | (refine Below.setCell ?_ (by first | omega | (simp; done) | (simp; omega)) _)))⟩
  · have hd' : dirB d = false := by simpa using hd
    clear hd
    go_enter Tryz.func23, Tryz.ntmps23
    go_wp2_with (refine (impl_isDirection _ _).mono ?_; rintro e _ ⟨rfl, rfl⟩)
    go_ret
    exact ⟨ret_bool (by simp [rowB, hd']), by (repeat (first | exact Below.refl _ _ | assumption | apply Below.drew | apply below_drewN | (refine Below.alloc ?_ (by first | omega | (simp; done) | (simp; omega)) _) | (refine Below.setCell ?_ (by first | omega | (simp; done) | (simp; omega)) _)))⟩

end Go.Proofs.YthjamohaeahipaaGreat

/- Marks: the laws write numbers into a slice and read them back. -/
namespace Go.Proofs.YthjamohaeahipaaGreat
open Go.RowKit

theorem OwnC.cap {w : World} {lo hi : Nat} {e : TypeId} {sz : Nat} {A : Option Addr} {n c : Nat} {cs : List Value} (h : OwnC w lo hi e sz A n c cs) : n ≤ c := by
  rcases h.form with ⟨_, rfl, rfl, _⟩ | ⟨_, _, _, _, _, _, h, _⟩
  · exact Nat.le_refl _
  · exact h
theorem belowOf {P : Program} {f : FuncId} {args : Array Value} {w : World} {Φ : Ending → Prop} (h : Calls P f args w fun e w' => Φ e ∧ w = w') : Calls P f args w fun e w' => Φ e ∧ Below w.heap.size w w' :=
  h.mono fun _ _ ⟨a, b⟩ => ⟨a, by subst b; exact Below.refl _ _⟩
theorem belowOfN {P : Program} {f : FuncId} {args : Array Value} {w : World} {Φ : Ending → Prop} (h : Calls P f args w fun e w' => Φ e ∧ ∃ n, w' = w.drewN n) : Calls P f args w fun e w' => Φ e ∧ Below w.heap.size w w' :=
  h.mono fun _ _ ⟨a, n, b⟩ => ⟨a, by subst b; exact below_drewN (Below.refl _ _) _⟩

def marksI (k : Int) (m : Nat) : List Int := (List.range m).map fun (i : Nat) => k + i
theorem marksI_length (k : Int) (m : Nat) : (marksI k m).length = m := by simp [marksI]
theorem marksI_snoc (k : Int) (m : Nat) : marksI k (m + 1) = marksI k m ++ [k + m] := by simp [marksI, List.range_succ]
theorem marksI_at {k : Int} {m i : Nat} {p : Int} (h : (marksI k m)[i]? = some p) : p = k + i := by
  simp only [marksI, List.getElem?_map, Option.map_eq_some_iff] at h
  obtain ⟨j, hj, rfl⟩ := h
  obtain ⟨hl, he⟩ := List.getElem?_eq_some_iff.1 hj
  simp at he
  subst he
  rfl

theorem upd_alloc (w : World) (o : Obj) (lo hi : Nat) : Upd lo hi w (w.alloc o) :=
  ⟨rfl, rfl, rfl, by simp, fun k hk _ => Below.heap_alloc w o k hk⟩


end Go.Proofs.YthjamohaeahipaaGreat
