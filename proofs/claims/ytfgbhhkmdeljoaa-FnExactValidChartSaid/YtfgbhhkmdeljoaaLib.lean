/- Words for memory that every text of this seat uses: a slice of numbers that is read, a slice that a call owns, and what a call leaves as it was. -/
import Derived.Test.YtfgbhhkmdeljoaaRows
import Derived.WalkKit
import Derived.WalkSpells
import Derived.BigQuiet
import Derived.Deep.QuietTactic
import Derived.Deep.RegionHeld3
import Derived.Lib.Hide
import Derived.ProofKit
import Derived.OpenShut
namespace Go.Proofs.Ytfgbhhkmdeljoaa
open Go.RowKit

def I (n : Int) : Value := .int .i64 n

/-- The slice at A, with these numbers, can be read. -/
def Ints (w : World) (A : Option Addr) (xs : List Int) : Prop :=
  ∀ k, k < xs.length → ∃ b off x, A = some ⟨b, off, none⟩ ∧ w.cell? ⟨b, off + k, none⟩ = some (.int .i64 x) ∧ xs[k]? = some x

theorem cell_lt {w : World} {a : Addr} {v : Value} (h : w.cell? a = some v) : a.block < w.heap.size := World.block_lt_of_cell? w a h

theorem Ints.of_cells {w w' : World} {A : Option Addr} {xs : List Int} (h : Ints w A xs) (hk : ∀ a v, w.cell? a = some v → w'.cell? a = some v) : Ints w' A xs :=
  fun k hk' => by
    obtain ⟨b, off, x, hA, hc, hx⟩ := h k hk'
    exact ⟨b, off, x, hA, hk _ _ hc, hx⟩

theorem cells_below {w w' : World} (hb : Below w.heap.size w w') : ∀ a v, w.cell? a = some v → w'.cell? a = some v :=
  fun a _ h => (hb.cell (p := a) (cell_lt h)).trans h

theorem cells_drewN {w : World} {n : Nat} : ∀ a v, w.cell? a = some v → (w.drewN n).cell? a = some v := fun _ _ h => h

theorem Ints.below {w w' : World} {A : Option Addr} {xs : List Int} (h : Ints w A xs) (hb : Below w.heap.size w w') : Ints w' A xs := h.of_cells (cells_below hb)
theorem Ints.drewN {w : World} {A : Option Addr} {xs : List Int} (h : Ints w A xs) (n : Nat) : Ints (w.drewN n) A xs := h
theorem Ints.nil {w : World} {A : Option Addr} : Ints w A [] := fun k hk => by simp at hk

theorem below_drewN {B : Nat} {w w' : World} (h : Below B w w') (n : Nat) : Below B w (w'.drewN n) := h.trans ⟨rfl, rfl, rfl, Nat.le_refl _, fun _ _ => rfl⟩

theorem undrew {w w' : World} (h : Below w.drew.heap.size w.drew w') : Below w.heap.size w w' := ⟨h.os, h.tape, h.output, h.size, h.block⟩

/-- Only blocks from lo up to hi may have changed. -/
structure Upd (lo hi : Nat) (w w' : World) : Prop where
  os : w'.os = w.os
  tape : w'.tape = w.tape
  output : w'.output = w.output
  size : w.heap.size ≤ w'.heap.size
  block : ∀ k, k < w.heap.size → (k < lo ∨ hi ≤ k) → w'.heap[k]? = w.heap[k]?

theorem Upd.refl (lo hi : Nat) (w : World) : Upd lo hi w w := ⟨rfl, rfl, rfl, Nat.le_refl _, fun _ _ _ => rfl⟩
theorem Upd.trans {lo hi : Nat} {a b c : World} (h : Upd lo hi a b) (k : Upd lo hi b c) : Upd lo hi a c :=
  ⟨k.os.trans h.os, k.tape.trans h.tape, k.output.trans h.output, Nat.le_trans h.size k.size,
   fun i hi' hj => (k.block i (Nat.lt_of_lt_of_le hi' h.size) hj).trans (h.block i hi' hj)⟩
theorem Upd.below {lo hi : Nat} {a b : World} (h : Upd lo hi a b) (hlo : lo ≤ a.heap.size) : Below lo a b :=
  ⟨h.os, h.tape, h.output, h.size, fun i hi' => h.block i (by omega) (.inl hi')⟩
theorem Upd.mono {lo hi lo' hi' : Nat} {a b : World} (h : Upd lo hi a b) (h1 : lo' ≤ lo) (h2 : hi ≤ hi') : Upd lo' hi' a b :=
  ⟨h.os, h.tape, h.output, h.size, fun i hi'' hj => h.block i hi'' (by omega)⟩
theorem Upd.drewN {lo hi : Nat} {a b : World} (h : Upd lo hi a b) (n : Nat) : Upd lo hi a (b.drewN n) :=
  ⟨h.os, h.tape, h.output, h.size, h.block⟩
theorem Upd.grown {lo hi : Nat} {a b c : World} {row : Option Nat} (h : Upd lo hi a b) (hg : b.grownBy c row) (hr : ∀ k, row = some k → lo ≤ k ∧ k < hi) : Upd lo hi a c :=
  h.trans ⟨hg.os, hg.tape, hg.output, hg.size, fun k hk hj => hg.block k hk (fun e => by have := hr k e.symm; omega)⟩
theorem Upd.setCell {lo hi : Nat} {a b : World} (h : Upd lo hi a b) {p : Addr} (h1 : lo ≤ p.block) (h2 : p.block < hi) (u : Value) : Upd lo hi a (b.setCell p u) :=
  h.trans ⟨rfl, rfl, rfl, by simp, fun k _ hj => Below.heap_setCell b p u k (by omega)⟩
theorem upd_of_below {B : Nat} {w w' : World} (h : Below B w w') (hB : w.heap.size ≤ B) (lo hi : Nat) : Upd lo hi w w' :=
  ⟨h.os, h.tape, h.output, h.size, fun k hk _ => h.block k (by omega)⟩

/-- The slice at A is the call's own, at the head of a block from lo to hi; it holds these cells (each element has 'sz' cells of the type e). -/
structure OwnC (w : World) (lo hi : Nat) (e : TypeId) (sz : Nat) (A : Option Addr) (n c : Nat) (cs : List Value) : Prop where
  own : w.ownsRow lo e sz (.slice A n c) n cs
  lt : ∀ a, A = some a → a.block < hi

section
variable {w w' : World} {lo hi : Nat} {e : TypeId} {sz : Nat} {A : Option Addr} {n c : Nat} {cs : List Value}
theorem OwnC.nil (w : World) (lo hi : Nat) (e : TypeId) (sz : Nat) : OwnC w lo hi e sz none 0 0 [] := ⟨World.ownsRow_nil _ _ _ _, by simp⟩
theorem OwnC.len (h : OwnC w lo hi e sz A n c cs) : cs.length = n * sz := h.own.1
theorem OwnC.form (h : OwnC w lo hi e sz A n c cs) : (A = none ∧ n = 0 ∧ c = 0 ∧ cs = []) ∨ ∃ g cur, A = some ⟨g, 0, none⟩ ∧ lo ≤ g ∧ g < hi ∧ w.heap[g]? = some (.cells cur e (0, 0)) ∧ n ≤ c ∧ c ≤ maxLen ∧ cur.size = c * sz ∧ cur.toList.take (n * sz) = cs := by
  obtain ⟨⟨h1, h2⟩, h3⟩ := h
  rcases h2 with ⟨h2, h4⟩ | ⟨g, cap, cur, h4, h5, h6, h7, h8, h9, h10⟩
  · injection h2 with h2 h5 h6
    subst h2 h4 h6
    exact .inl ⟨rfl, rfl, rfl, List.eq_nil_of_length_eq_zero (by simpa using h1)⟩
  · injection h4 with h4 _ h11
    subst h4 h11
    exact .inr ⟨g, cur, rfl, h5, h3 _ rfl, h6, h7, h8, h9, h10⟩
theorem OwnC.cell (h : OwnC w lo hi e sz A n c cs) {j : Nat} (hj : j < cs.length) : ∃ g, A = some ⟨g, 0, none⟩ ∧ lo ≤ g ∧ g < hi ∧ w.cell? ⟨g, j, none⟩ = some cs[j] ∧ w.frozen? ⟨g, j, none⟩ = false := by
  rcases h.form with ⟨_, _, _, rfl⟩ | ⟨g, cur, rfl, h1, h2, h3, h4, h5, h6, h7⟩
  · simp at hj
  · refine ⟨g, rfl, h1, h2, ?_, frozen_of_row w g j cur e h3⟩
    have hl : j < n * sz := by rw [← h.len]; exact hj
    have := h.own.cellAt j hl
    rw [this, List.getElem?_eq_getElem hj]
theorem OwnC.keep (h : OwnC w lo hi e sz A n c cs) (hk : ∀ k, lo ≤ k → k < hi → k < w.heap.size → w'.heap[k]? = w.heap[k]?) : OwnC w' lo hi e sz A n c cs := by
  refine ⟨⟨h.own.1, ?_⟩, h.lt⟩
  rcases h.own.2 with h2 | ⟨g, cap, cur, h4, h5, h6, h7⟩
  · exact .inl h2
  · injection h4 with h4 hn h11
    subst h4 h11
    have hlt : g < hi := h.lt _ rfl
    exact .inr ⟨g, c, cur, rfl, h5, by rw [hk g h5 hlt (Array.getElem?_eq_some_iff.1 h6).1]; exact h6, h7⟩
theorem OwnC.below {B : Nat} (h : OwnC w lo hi e sz A n c cs) (hb : Below B w w') (hB : hi ≤ B) : OwnC w' lo hi e sz A n c cs :=
  h.keep fun k _ h2 _ => hb.block k (by omega)
theorem OwnC.upd {l2 h2 : Nat} (h : OwnC w lo hi e sz A n c cs) (hb : Upd l2 h2 w w') (hB : hi ≤ l2 ∨ h2 ≤ lo) : OwnC w' lo hi e sz A n c cs :=
  h.keep fun k h3 h4 h5 => hb.block k h5 (by omega)
theorem OwnC.mono {lo' hi' : Nat} (h : OwnC w lo hi e sz A n c cs) (h1 : lo' ≤ lo) (h2 : hi ≤ hi') : OwnC w lo' hi' e sz A n c cs := by
  refine ⟨⟨h.own.1, ?_⟩, fun a ha => Nat.lt_of_lt_of_le (h.lt a ha) h2⟩
  rcases h.own.2 with h3 | ⟨g, cap, cur, h4, h5, h6⟩
  · exact .inl h3
  · exact .inr ⟨g, cap, cur, h4, by omega, h6⟩
theorem OwnC.of_own (h : w.ownsRow lo e sz (.slice A n c) n cs) (hhi : w.heap.size ≤ hi) : OwnC w lo hi e sz A n c cs :=
  ⟨h, fun a ha => by subst ha; have := h.lt a.block rfl; omega⟩
theorem OwnC.far (h : OwnC w lo hi e sz A n c cs) {p : Addr} (hp : p.block < lo ∨ hi ≤ p.block) (u : Value) : OwnC (w.setCell p u) lo hi e sz A n c cs :=
  h.keep fun k h2 h3 _ => Below.heap_setCell w p u k (by omega)
theorem OwnC.alloc (h : OwnC w lo hi e sz A n c cs) (o : Obj) : OwnC (w.alloc o) lo hi e sz A n c cs :=
  h.keep fun k _ _ h4 => Below.heap_alloc w o k h4
theorem OwnC.drewN (h : OwnC w lo hi e sz A n c cs) (k : Nat) : OwnC (w.drewN k) lo hi e sz A n c cs := h.keep fun _ _ _ _ => rfl
/-- A store into the row. -/
theorem OwnC.store {g j : Nat} (h : OwnC w lo hi e sz (some ⟨g, 0, none⟩) n c cs) (u : Value) :
    OwnC (w.setCell ⟨g, j, none⟩ u) lo hi e sz (some ⟨g, 0, none⟩) n c (cs.set j u) ∧ w.grownBy (w.setCell ⟨g, j, none⟩ u) (some g) :=
  ⟨⟨(h.own.stored j u).1, h.lt⟩, (h.own.stored j u).2⟩
end

/-- A slice of numbers that is the call's own. -/
abbrev OwnI (w : World) (lo hi : Nat) (A : Option Addr) (c : Nat) (xs : List Int) : Prop := OwnC w lo hi 2 1 A xs.length c (xs.map (Value.int .i64))

theorem OwnC.ints {w : World} {lo hi n : Nat} {A : Option Addr} {c : Nat} {xs : List Int} (h : OwnC w lo hi 2 1 A n c (xs.map (Value.int .i64))) : Ints w A xs := by
  intro k hk
  obtain ⟨g, hA, _, _, hc, _⟩ := h.cell (j := k) (by simpa using hk)
  exact ⟨g, 0, xs[k], hA, by simp only [Nat.zero_add, hc]; simp, List.getElem?_eq_getElem hk⟩

theorem info_int64 : (Try.prog.info? 2).map (fun i => (i.zero, i.size, i.bytes)) = some (some (.int .i64 0), 1, 8) := by kernel_rfl

theorem ret_bool {a b : Bool} (h : a = b) : Ending.returned (.bool a) = .returned (.bool b) := by rw [h]
theorem ret_int {k : IntKind} {a b : Int} (h : a = b) : Ending.returned (.int k a) = .returned (.int k b) := by rw [h]
theorem int_eq {k : IntKind} {a b : Int} (h : a = b) : Value.int k a = .int k b := by rw [h]
theorem bool_eq {a b : Bool} (h : a = b) : Value.bool a = .bool b := by rw [h]

theorem drew2 (w : World) (n k : Nat) : ∃ m, (w.drewN n).drewN k = w.drewN m := ⟨n + k, by simp⟩
theorem take_snoc {α : Type} {xs : List α} {k : Nat} {x : α} (h : xs[k]? = some x) : xs.take (k + 1) = xs.take k ++ [x] := by
  rw [List.take_add_one, h]; rfl
theorem take_all {α : Type} {xs : List α} {k : Nat} (h : xs.length ≤ k) : xs.take k = xs := List.take_of_length_le h
theorem take_set_succ {α : Type} (cs : List α) (k : Nat) (u : α) (hk : k < cs.length) : (cs.set k u).take (k + 1) = cs.take k ++ [u] := by
  rw [List.take_succ_eq_append_getElem (by simpa using hk), List.take_set_of_le (Nat.le_refl k)]
  simp
theorem ne_of_getElem? {α : Type} {xs ys : List α} {k : Nat} {x y : α} (h : xs[k]? = some x) (h' : ys[k]? = some y) (hne : x ≠ y) : xs ≠ ys := by
  rintro rfl; rw [h] at h'; exact hne (by injection h')
theorem any_true_at {α : Type} {xs : List α} {k : Nat} {x : α} {p : α → Bool} (h : xs[k]? = some x) (hp : p x = true) : xs.any p = true :=
  List.any_eq_true.2 ⟨x, List.mem_of_getElem? h, hp⟩
theorem all_false_at {α : Type} {xs : List α} {k : Nat} {x : α} {p : α → Bool} (h : xs[k]? = some x) (hp : p x = false) : xs.all p = false :=
  List.all_eq_false.2 ⟨x, List.mem_of_getElem? h, by simp [hp]⟩

/-- Block g holds just these cells. -/
def Blk (w : World) (g : Nat) (t : TypeId) (cs : Array Value) : Prop := w.heap[g]? = some (.cells cs t (0, 0))
section
variable {w w' : World} {g : Nat} {t : TypeId} {cs : Array Value}
theorem Blk.lt (h : Blk w g t cs) : g < w.heap.size := by
  rcases Nat.lt_or_ge g w.heap.size with hlt | hge
  · exact hlt
  · unfold Blk at h; rw [Array.getElem?_eq_none hge] at h; cases h
theorem Blk.cell (h : Blk w g t cs) (i : Nat) : w.cell? ⟨g, i, none⟩ = cs[i]? := cell_of_row w g i cs t (0, 0) h
theorem Blk.frozen (h : Blk w g t cs) (i : Nat) : w.frozen? ⟨g, i, none⟩ = false := by
  unfold Blk at h
  simp [World.frozen?, h]
theorem Blk.new (w : World) (t : TypeId) (cs : Array Value) : Blk (w.alloc (.cells cs t)) w.heap.size t cs := heap_alloc_new w _
theorem Blk.alloc (h : Blk w g t cs) (o : Obj) : Blk (w.alloc o) g t cs := (Below.heap_alloc w o g h.lt).trans h
theorem Blk.drewN (h : Blk w g t cs) (n : Nat) : Blk (w.drewN n) g t cs := h
theorem Blk.far (h : Blk w g t cs) {p : Addr} (hp : g ≠ p.block) (u : Value) : Blk (w.setCell p u) g t cs := (Below.heap_setCell w p u g hp).trans h
theorem Blk.below {B : Nat} (h : Blk w g t cs) (hb : Below B w w') (hg : g < B) : Blk w' g t cs := (hb.block g hg).trans h
theorem Blk.upd {lo hi : Nat} (h : Blk w g t cs) (hb : Upd lo hi w w') (hg : g < lo ∨ hi ≤ g) : Blk w' g t cs := (hb.block g h.lt hg).trans h
theorem Blk.c1 {a : Value} (h : Blk w g t #[a]) : w.cell? ⟨g, 0, none⟩ = some a := h.cell 0
theorem Blk.c2 {a b : Value} (h : Blk w g t #[a, b]) : w.cell? ⟨g, 0, none⟩ = some a ∧ w.cell? ⟨g, 1, none⟩ = some b := ⟨h.cell 0, h.cell 1⟩
theorem Blk.c3 {a b c : Value} (h : Blk w g t #[a, b, c]) : w.cell? ⟨g, 0, none⟩ = some a ∧ w.cell? ⟨g, 1, none⟩ = some b ∧ w.cell? ⟨g, 2, none⟩ = some c := ⟨h.cell 0, h.cell 1, h.cell 2⟩
end
theorem take_set3 {α : Type} (cs : List α) (k m : Nat) (hm : m = k + 3) (hk : m ≤ cs.length) (u0 u1 u2 : α) : ((((cs.set (k) u0).set (k + 1) u1).set (k + 2) u2)).take m = cs.take k ++ [u0, u1, u2] := by
  subst hm
  rw [take_set_succ _ (k + 2) _ (by simp only [List.length_set]; omega), take_set_succ _ (k + 1) _ (by simp only [List.length_set]; omega), take_set_succ _ k _ (by omega)]
  simp
theorem take_set4 {α : Type} (cs : List α) (k m : Nat) (hm : m = k + 4) (hk : m ≤ cs.length) (u0 u1 u2 u3 : α) : (((((cs.set (k) u0).set (k + 1) u1).set (k + 2) u2).set (k + 3) u3)).take m = cs.take k ++ [u0, u1, u2, u3] := by
  subst hm
  rw [take_set_succ _ (k + 3) _ (by simp only [List.length_set]; omega), take_set_succ _ (k + 2) _ (by simp only [List.length_set]; omega), take_set_succ _ (k + 1) _ (by simp only [List.length_set]; omega), take_set_succ _ k _ (by omega)]
  simp
theorem take_set6 {α : Type} (cs : List α) (k m : Nat) (hm : m = k + 6) (hk : m ≤ cs.length) (u0 u1 u2 u3 u4 u5 : α) : (((((((cs.set (k) u0).set (k + 1) u1).set (k + 2) u2).set (k + 3) u3).set (k + 4) u4).set (k + 5) u5)).take m = cs.take k ++ [u0, u1, u2, u3, u4, u5] := by
  subst hm
  rw [take_set_succ _ (k + 5) _ (by simp only [List.length_set]; omega), take_set_succ _ (k + 4) _ (by simp only [List.length_set]; omega), take_set_succ _ (k + 3) _ (by simp only [List.length_set]; omega), take_set_succ _ (k + 2) _ (by simp only [List.length_set]; omega), take_set_succ _ (k + 1) _ (by simp only [List.length_set]; omega), take_set_succ _ k _ (by omega)]
  simp

end Go.Proofs.Ytfgbhhkmdeljoaa
