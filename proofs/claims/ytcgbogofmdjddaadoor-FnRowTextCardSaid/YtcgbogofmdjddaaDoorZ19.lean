/- Steps of the proof, joined from several texts: WI GC GD GE. -/
import Derived.Test.YtcgbogofmdjddaaDoorZ18
import Derived.Test.YtcgbogofmdjddaaDoorZ5
import Derived.Deep.DeepCutAuto

/- Texts of rows and short texts are read back, plain. -/
namespace Go.Proofs.YtcgbogofmdjddaaDoor
open Go Go.RowKit

theorem range_app {d : Nat} : ∀ (a b : List PieceD), (∀ p ∈ a, plainP p = true ∧ p.kind ≠ 12) → rangeP d (a ++ b) = rangeP d b
  | [], _, _ => rfl
  | p :: a, b, h => by
    obtain ⟨h1, h2⟩ := h p (by simp)
    rw [List.cons_append, rangeP_plain h2 h1, range_app a b fun q hq => h q (by simp [hq])]
theorem range_all {d : Nat} (a : List PieceD) (h : ∀ p ∈ a, plainP p = true ∧ p.kind ≠ 12) : rangeP d a = some 0 := by
  have := range_app (d := d) a [] h
  rw [List.append_nil] at this
  rw [this, rangeP_nil]
theorem piecesB_of {ps : List PieceD} (h : rangeP 0 ps = some 0) (hl : ps.length ≤ 24) : piecesB ps = true := by
  unfold piecesB
  rw [h, decide_eq_true hl]
  rfl
theorem compressed_pieces {l : List Int} (h : stitchesB l = true) : piecesB (compressed l) = true := by
  have hl16 := (stitchesB_of h).1
  exact piecesB_of (range_all _ (compressed_plain h (fun x hx => hx) hl16)) (by have := (compressed_good h).2; omega)
theorem fold_pieces {l : List Int} (hst : stitchesB l = true) {f s t : Nat} (hf : f < l.length) (hs : 1 ≤ s) (ht2 : 2 ≤ t) (ht : t ≤ 16) (hE : f + s * t ≤ l.length) : piecesB (foldP l f s t) = true := by
  have hl16 := (stitchesB_of hst).1
  obtain ⟨hg, h17, _⟩ := fold_good hst hf hs ht2 ht hE
  have hP : s * 2 ≤ s * t := Nat.mul_le_mul_left s ht2
  have hseg : (segL l f s).length = s := by rw [segL, List.length_take, List.length_drop]; omega
  have p1 := compressed_plain (xs := l.take f) hst (fun x hx => List.mem_of_mem_take hx) (by rw [List.length_take]; omega)
  have p2 := compressed_plain (xs := segL l f s) hst (fun x hx => segL_sub hx) (by rw [hseg]; omega)
  have p3 := compressed_plain (xs := l.drop (f + s * t)) hst (fun x hx => List.mem_of_mem_drop hx) (by rw [List.length_drop]; omega)
  have hne : 1 ≤ (compressed (segL l f s)).length := by
    cases hc : compressed (segL l f s) with
    | nil => exact absurd hc (compressed_ne (by intro e; rw [e] at hseg; simp at hseg; omega))
    | cons => simp
  refine piecesB_of ?_ (by omega)
  unfold foldP
  rw [range_app _ _ p1]
  have hgr : groupP 0 (⟨12, (t : Int), ((compressed (segL l f s)).length : Int)⟩ : PieceD) (compressed (segL l f s) ++ compressed (l.drop (f + s * t))).length = true := by
    unfold groupP
    simp only
    rw [inR_iff.2 ⟨by omega, by omega⟩, decide_eq_false (show ¬ (t : Int) = 0 by omega), Bool.false_and, inR_iff.2 ⟨by omega, by rw [List.length_append]; omega⟩]
    rfl
  rw [rangeP_open rfl (by omega) hgr (by simp only; rw [Int.toNat_natCast, List.take_left]; exact good_of_plain _ p2)]
  simp only
  rw [Int.toNat_natCast, List.drop_left, range_all _ p3, if_neg (by omega)]
  rfl
/-- A text that is read as pieces which expand to the row, and is not longer than another one. -/
def Reads (l : List Int) (b0 b : ByteArray) : Prop := ∃ F, piecesB F = true ∧ expP 0 F = l ∧ txtP F = b ∧ b.size ≤ b0.size
theorem Reads.pick {l : List Int} {b0 b : ByteArray} (h : Reads l b0 b) {F : List PieceD} (h1 : piecesB F = true) (h2 : expP 0 F = l) : Reads l b0 (pickT (txtP F) b) := by
  unfold pickT
  split
  · rename_i hb
    obtain ⟨_, _, _, _, hz⟩ := h
    refine ⟨F, h1, h2, rfl, ?_⟩
    rcases better_cases (txtP F) b with ⟨c, _⟩ | ⟨_, c, _⟩ | ⟨_, _, _, c⟩ | ⟨_, _, c⟩
    · omega
    · omega
    · rw [c] at hb; cases hb
    · rw [c] at hb; cases hb
  · exact h
theorem reads_shT {l : List Int} (hst : stitchesB l = true) {b0 : ByteArray} {f s : Nat} (hf : f < l.length) (n : Nat) : ∀ (k : Nat) (b : ByteArray), l.length + 1 - k ≤ n → 2 ≤ k → (∀ j, 2 ≤ j → j < k → runs l f s j = true) → Reads l b0 b → Reads l b0 (shT l f s k b) := by
  have hl16 := (stitchesB_of hst).1
  induction n with
  | zero =>
    intro k b hn hk hj h
    cases hr : runs l f s k
    · rw [shT_no hr]; exact h
    · have := runs_le (by omega) hr; omega
  | succ n ih =>
    intro k b hn hk hj h
    cases hr : runs l f s k
    · rw [shT_no hr]; exact h
    · obtain ⟨hs, hE, hkl⟩ := runs_le (by omega) hr
      rw [Nat.mul_comm] at hE
      rw [shT_yes (by omega) hr]
      have hj2 : ∀ j, 2 ≤ j → j < k + 1 → runs l f s j = true := fun j h1 h2 => by
        by_cases h3 : j < k
        · exact hj j h1 h3
        · obtain rfl : j = k := by omega
          exact hr
      refine ih (k + 1) _ (by omega) (by omega) hj2 (h.pick (fold_pieces hst hf hs hk (by omega) hE) (exp_fold hst 0 (by omega) hE fun j hjk => ?_))
      by_cases h0 : j = 0
      · subst h0; rw [Nat.zero_mul]; rfl
      · have := hj2 (j + 1) (by omega) (by omega)
        rw [runs_next hs (by omega) rfl] at this
        unfold runAt at this
        simp only [Bool.and_eq_true, decide_eq_true_eq] at this
        exact this.2
theorem reads_shS {l : List Int} (hst : stitchesB l = true) {b0 : ByteArray} {f : Nat} (hf : f < l.length) (n : Nat) : ∀ (s : Nat) (b : ByteArray), l.length + 1 - s ≤ n → 1 ≤ s → Reads l b0 b → Reads l b0 (shS l f s b) := by
  induction n with
  | zero =>
    intro s b hn hs h
    rw [shS_no (by omega)]; exact h
  | succ n ih =>
    intro s b hn hs h
    by_cases hf2 : f + 2 * s ≤ l.length
    · rw [shS_yes hs hf2]
      exact ih (s + 1) _ (by omega) (by omega) (reads_shT hst hf _ 2 b (Nat.le_refl _) (Nat.le_refl _) (fun j h1 h2 => by omega) h)
    · rw [shS_no hf2]; exact h
theorem reads_shF {l : List Int} (hst : stitchesB l = true) {b0 : ByteArray} (n : Nat) : ∀ (f : Nat) (b : ByteArray), l.length - f ≤ n → Reads l b0 b → Reads l b0 (shF l f b) := by
  induction n with
  | zero =>
    intro f b hn h
    rw [shF_no (by omega)]; exact h
  | succ n ih =>
    intro f b hn h
    by_cases hf : f < l.length
    · rw [shF_yes hf]
      exact ih (f + 1) _ (by omega) (reads_shS hst hf _ 1 b (Nat.le_refl _) (Nat.le_refl _) h)
    · rw [shF_no hf]; exact h
theorem short_reads {l : List Int} (hst : stitchesB l = true) : Reads l (txtP (compressed l)) (shortP l) := by
  rw [shortP, if_pos hst]
  exact reads_shF hst _ 0 _ (Nat.le_refl _) ⟨compressed l, compressed_pieces hst, exp_compressed 0 l (not12 hst), rfl, Nat.le_refl _⟩
theorem read_txt {F : List PieceD} (h : piecesB F = true) : rpP (txtP F) = F ∧ rpOk (txtP F) = true := by
  have := (readI_iff (txtP F) F).2 (goodRd_iff.2 ⟨h, rfl⟩)
  rw [rpP, rpOk, this]
  exact ⟨rfl, rfl⟩
theorem takenB_stitch {k : Int} (h : isStitchB k = true) : takenB k = takenN k := by rw [takenB, if_pos h]
theorem sumV_taken {l : List Int} (h : ∀ k ∈ l, isStitchB k = true) : sumV false l = takenS l := by
  induction l with
  | nil => rfl
  | cons k r ih =>
    rw [sumV, ih fun x hx => h x (by simp [hx]), takenS, valK]
    simp only [Bool.false_eq_true, if_false]
    rw [takenB_stitch (h k (by simp))]
    omega
/-- Pieces that expand to a row without an open group take its columns. -/
theorem ex_row {F : List PieceD} {l : List Int} (h : piecesB F = true) (he : expP 0 F = l) (hst : stitchesB l = true) (hn : inR (takenS l : Int) 1 8 = true) : exCode F (takenS l : Int) = 0 ∧ exRes F (takenS l : Int) = l := by
  obtain ⟨hl16, hk⟩ := stitchesB_of hst
  have s1 := sums_exp h false (o := 0) (Int.le_refl _)
  have s2 := sums_exp h true (o := 0) (Int.le_refl _)
  rw [he, sumV_taken hk] at s1
  rw [he, sumV_len] at s2
  rw [Int.zero_mul, Int.add_zero] at s1 s2
  have hneed : needOf F = (takenS l : Int) := s1.symm
  have ht : timesOf F (takenS l : Int) = 0 := by
    unfold timesOf expT
    rw [hneed, if_neg (by omega)]
  have hc : exCode F (takenS l : Int) = 0 := by
    rw [exCode, if_pos h, if_pos hn, ht, hneed, Int.zero_mul, Int.zero_mul, Int.add_zero, Int.add_zero, if_pos rfl, if_pos (by omega)]
  refine ⟨hc, ?_⟩
  rw [exRes, if_pos hc, ht, he]

end Go.Proofs.YtcgbogofmdjddaaDoor

/- The draws: how long the source may stay. -/
namespace Go.Proofs.YtcgbogofmdjddaaDoor
open Go Go.RowKit

theorem least {P : Nat → Prop} (n : Nat) (h : P n) : ∃ m, m ≤ n ∧ P m ∧ ∀ k, k < m → ¬ P k := by
  induction n using Nat.strongRecOn with
  | ind n ih =>
    by_cases hk : ∃ k, k < n ∧ P k
    · obtain ⟨k, hk, hp⟩ := hk
      obtain ⟨m, hm, h1, h2⟩ := ih k hk hp
      exact ⟨m, by omega, h1, h2⟩
    · exact ⟨n, Nat.le_refl _, h, fun k hk' hp => hk ⟨k, hk', hp⟩⟩
theorem steps_ex (s : Nat) : ∃ m : Nat, m ≤ 2 ^ 40 ∧ byteOf (iterN lcg m (lcg s)) % 14 ≠ 5 ∧ ∀ k, k < m → ¬ byteOf (iterN lcg k (lcg s)) % 14 ≠ 5 := by
  obtain ⟨n, hn, h⟩ := leaves (lcg s)
  obtain ⟨m, hm, h1, h2⟩ := least (P := fun n => byteOf (iterN lcg n (lcg s)) % 14 ≠ 5) n h
  exact ⟨m, Nat.le_trans hm hn, h1, h2⟩
/-- How many numbers are drawn, from a seed, until one is not the fifth of fourteen. -/
noncomputable def stepsOf (s : Nat) : Nat := Classical.choose (steps_ex s)
theorem stepsOf_spec (s : Nat) : stepsOf s ≤ 1099511627776 ∧ byteOf (iterN lcg (stepsOf s) (lcg s)) % 14 ≠ 5 ∧ ∀ k, k < stepsOf s → byteOf (iterN lcg k (lcg s)) % 14 = 5 := by
  have h := Classical.choose_spec (steps_ex s)
  exact ⟨Nat.le_trans h.1 (Nat.le_of_eq pow_40), h.2.1, fun k hk => by have := h.2.2 k hk; omega⟩
theorem stepsOf_next {s : Nat} (h : byteOf (lcg s) % 14 = 5) : stepsOf (lcg s) < stepsOf s := by
  obtain ⟨_, h1, h2⟩ := stepsOf_spec s
  obtain ⟨_, h3, h4⟩ := stepsOf_spec (lcg s)
  have h0 : stepsOf s ≠ 0 := by
    intro e
    rw [e, iterN_zero] at h1
    exact h1 h
  obtain ⟨m, hm⟩ : ∃ m, stepsOf s = m + 1 := ⟨stepsOf s - 1, by omega⟩
  rw [hm, iterN_succ] at h1
  rw [hm]
  by_cases hlt : m < stepsOf (lcg s)
  · exact absurd (h4 m hlt) h1
  · omega
/-- What is left to draw: bytes of the code, then steps of the seed. -/
noncomputable def lowOf (len p s : Nat) : Nat := if p < len then (len - p) + 2199023255552 else stepsOf s
theorem lowOf_le (len p s : Nat) : lowOf len p s ≤ len + 2199023255552 := by
  unfold lowOf
  have := (stepsOf_spec s).1
  split <;> omega
theorem lowOf_any {len p s : Nat} {s' : Nat} : lowOf len (p + 1) s' ≤ lowOf len p s + 1099511627776 := by
  unfold lowOf
  have := (stepsOf_spec s').1
  split <;> split <;> omega
theorem lowOf_stay {len p s : Nat} {x : Int} {s' : Nat} (h : Next len p s x s') (h5 : x % 14 = 5) : lowOf len (p + 1) s' < lowOf len p s := by
  unfold lowOf
  have h1 := (stepsOf_spec s').1
  by_cases hp : p < len
  · clear h h5
    rw [if_pos hp]
    generalize stepsOf s' = y at h1 ⊢
    split <;> omega
  · have e := h.2.2 (by omega)
    have e1 := e.1
    have e2 := e.2
    rw [e1] at e2 ⊢
    clear e h e1 h1
    have h2 : byteOf (lcg s) % 14 = 5 := by
      generalize byteOf (lcg s) = y at e2 ⊢
      omega
    have h3 := stepsOf_next h2
    rw [if_neg hp, if_neg (by omega)]
    exact h3

end Go.Proofs.YtcgbogofmdjddaaDoor

/- The draws: stitches that take some columns. -/
namespace Go.Proofs.YtcgbogofmdjddaaDoor
open Go Go.RowKit

theorem nextW_grown (w : World) (g p s' n : Nat) : w.grownBy (nextW w g p s' n) (some g) :=
  ⟨rfl, rfl, rfl, by simp [nextW], fun k _ hk => nextW_far (fun e => hk (by rw [e]))⟩
/-- The bytes that are read lie in an earlier block. -/
def FarB (A : Option Addr) (bs : List Int) (g : Nat) : Prop := 0 < bs.length → ∀ a, A = some a → a.block < g
theorem Bytes.grown {w w' : World} {A : Option Addr} {bs : List Int} {g : Nat} (h : Bytes w A bs) (hg : w.grownBy w' (some g)) (hA : FarB A bs g) : Bytes w' A bs :=
  fun k hk' => by
    obtain ⟨b, off, x, hA', hx, hc, h0⟩ := h k hk'
    refine ⟨b, off, x, hA', hx, hg.cell hc ?_, h0⟩
    intro e
    injection e with e
    exact Nat.ne_of_lt (hA (by omega) _ hA') e
def drawL : List Int := [1, 1, 1, 2, 2, 3, 4, 5, 6, 7, 8, 9, 10, 11]
theorem draw_kind {x y : Int} (h : drawL[(x % 14).toNat]? = some y) : isStitchB y = true ∧ (y = 3 → x % 14 = 5) := by
  obtain ⟨k, hk⟩ := Int.eq_ofNat_of_zero_le (Int.emod_nonneg x (show (14 : Int) ≠ 0 by decide))
  have hlt := Int.emod_lt_of_pos x (show (0 : Int) < 14 by decide)
  rw [hk] at h hlt ⊢
  rw [Int.toNat_natCast] at h
  rcases (by omega : k = 0 ∨ k = 1 ∨ k = 2 ∨ k = 3 ∨ k = 4 ∨ k = 5 ∨ k = 6 ∨ k = 7 ∨ k = 8 ∨ k = 9 ∨ k = 10 ∨ k = 11 ∨ k = 12 ∨ k = 13) with e | e | e | e | e | e | e | e | e | e | e | e | e | e
  all_goals
    subst e
    simp [drawL] at h
    subst h
    decide
def numVg : Option Value → Nat
  | some (.int _ x) => x.toNat
  | _ => 0
def lenOV : Value → Nat
  | .slice _ n _ => n
  | _ => 0
/-- What the loop over draws uses up. -/
noncomputable def potW (len g : Nat) (ov lv : Value) (w : World) : Nat := ((intOf lv).toNat * 17 + (16 - lenOV ov)) * 4398046511104 + lowOf len (numVg (w.cell? ⟨g, 1, none⟩)) (numVg (w.cell? ⟨g, 2, none⟩))
theorem potW_eq {w : World} {g n c p s len : Nat} {A A' : Option Addr} {m c' l : Nat} (h : Src w g A n c p s) : potW len g (.slice A' m c') (.int .i64 (l : Int)) w = (l * 17 + (16 - m)) * 4398046511104 + lowOf len p s := by
  unfold potW
  rw [h.c3.2.1, h.c3.2.2]
  simp [numVg, lenOV, intOf]
theorem taken_cases {k : Int} (h : isStitchB k = true) : ∃ t u : Nat, takenB k = (t : Int) ∧ madeB k = (u : Int) ∧ ((k = 3 ∧ t = 0 ∧ u = 1) ∨ (k ≠ 3 ∧ 1 ≤ t ∧ u ≤ t)) := by
  rcases stitch_cases h with rfl | rfl | rfl | rfl | rfl | rfl | rfl | rfl | rfl | rfl | rfl
  · exact ⟨1, 1, by decide, by decide, by decide⟩
  · exact ⟨1, 1, by decide, by decide, by decide⟩
  · exact ⟨0, 1, by decide, by decide, by decide⟩
  · exact ⟨2, 1, by decide, by decide, by decide⟩
  · exact ⟨2, 1, by decide, by decide, by decide⟩
  · exact ⟨1, 1, by decide, by decide, by decide⟩
  · exact ⟨1, 1, by decide, by decide, by decide⟩
  · exact ⟨2, 2, by decide, by decide, by decide⟩
  · exact ⟨2, 2, by decide, by decide, by decide⟩
  · exact ⟨4, 4, by decide, by decide, by decide⟩
  · exact ⟨4, 4, by decide, by decide, by decide⟩


end Go.Proofs.YtcgbogofmdjddaaDoor

/- The draws: the source as one word, and what its methods give. -/
namespace Go.Proofs.YtcgbogofmdjddaaDoor
open Go Go.RowKit

/-- The source at block g reads these bytes; it has given at most b numbers. -/
structure Sv (w : World) (g : Nat) (A : Option Addr) (c : Nat) (bs : List Int) (b : Nat) : Prop where
  ex : ∃ p s, Src w g A bs.length c p s ∧ s < 18446744073709551616 ∧ p ≤ b
  bytes : Bytes w A bs
  far : FarB A bs g
  len : bs.length ≤ 1099511627776
section
variable {w w' : World} {g : Nat} {A : Option Addr} {c : Nat} {bs : List Int} {b b' : Nat}
theorem Sv.mono (h : Sv w g A c bs b) (hb : b ≤ b') : Sv w g A c bs b' := by
  obtain ⟨p, s, h1, h2, h3⟩ := h.ex
  exact ⟨⟨p, s, h1, h2, Nat.le_trans h3 hb⟩, h.bytes, h.far, h.len⟩
theorem Sv.lt (h : Sv w g A c bs b) : g < w.heap.size := by obtain ⟨p, s, h1, _⟩ := h.ex; exact h1.lt
theorem Sv.below (h : Sv w g A c bs b) (hb : Below w.heap.size w w') : Sv w' g A c bs b := by
  obtain ⟨p, s, h1, h2, h3⟩ := h.ex
  exact ⟨⟨p, s, h1.below hb h1.lt, h2, h3⟩, h.bytes.of_cells (cells_below hb), h.far, h.len⟩
theorem Sv.alloc (h : Sv w g A c bs b) (o : Obj) : Sv (w.alloc o) g A c bs b := h.below ((Below.refl _ _).alloc (Nat.le_refl _) o)
theorem Sv.drewN (h : Sv w g A c bs b) (n : Nat) : Sv (w.drewN n) g A c bs b := h.below (below_drewN (Below.refl _ _) n)
/-- A world in which the blocks up to the source's are as they were. -/
theorem Sv.keep (h : Sv w g A c bs b) (hk : ∀ q, q ≤ g → w'.heap[q]? = w.heap[q]?) : Sv w' g A c bs b := by
  obtain ⟨p, s, q1, q2, q3⟩ := h.ex
  refine ⟨⟨p, s, (hk g (Nat.le_refl g)).trans q1, q2, q3⟩, fun k hk' => ?_, h.far, h.len⟩
  obtain ⟨b, off, x, hA, hx, hc, h0⟩ := h.bytes k hk'
  have hlt : b < g := h.far (by omega) _ hA
  refine ⟨b, off, x, hA, hx, ?_, h0⟩
  rw [← hc]
  unfold World.cell?
  rw [hk b (by omega)]
theorem Sv.store (h : Sv w g A c bs b) {q j : Nat} (hq : g < q) (u : Value) : Sv (w.setCell ⟨q, j, none⟩ u) g A c bs b :=
  h.keep fun k hk => Below.heap_setCell w _ u k (by show k ≠ q; omega)
theorem Sv.grown {row : Option Nat} (h : Sv w g A c bs b) (hg : w.grownBy w' row) (h1 : ∀ q, row = some q → g < q) : Sv w' g A c bs b :=
  h.keep fun k hk => hg.block k (by have := h.lt; omega) fun e => by have := h1 k e.symm; omega
theorem Sv.next {n p s' : Nat} (h : Sv w g A c bs b) {s : Nat} (hs : Src w g A bs.length c p s) (hp : p ≤ b) (hs' : s' < 18446744073709551616) : Sv (nextW w g p s' n) g A c bs (b + 1) ∧ w.grownBy (nextW w g p s' n) (some g) ∧ (nextW w g p s' n).heap.size = w.heap.size :=
  ⟨⟨⟨p + 1, s', nextW_src hs, hs', by omega⟩, h.bytes.grown (nextW_grown w g p s' n) h.far, h.far, h.len⟩, nextW_grown w g p s' n, by simp [nextW]⟩
theorem OwnC.grownG {lo hi n cc : Nat} {e : TypeId} {sz : Nat} {B : Option Addr} {cs : List Value} (h : OwnC w lo hi e sz B n cc cs) (hg : w.grownBy w' (some g)) (hlo : g < lo ∨ hi ≤ g) : OwnC w' lo hi e sz B n cc cs :=
  h.keep fun k h1 h2 h3 => hg.block k h3 (fun e => by injection e with e; omega)
theorem Blk.grownG {g2 : Nat} {t : TypeId} {cs : Array Value} (h : Blk w g2 t cs) (hg : w.grownBy w' (some g)) (hne : g2 ≠ g) : Blk w' g2 t cs :=
  (hg.block g2 h.lt (fun e => by injection e with e; exact hne e)).trans h
theorem Ints.grownG {B : Option Addr} {xs : List Int} (h : Ints w B xs) (hg : w.grownBy w' (some g)) (hB : ∀ a, B = some a → a.block ≠ g) : Ints w' B xs :=
  fun k hk => by
    obtain ⟨b, off, x, hA, hc, hx⟩ := h k hk
    exact ⟨b, off, x, hA, hg.cell hc (fun e => by injection e with e; exact hB _ hA e), hx⟩
end
theorem below_grownG {w w' : World} {g : Nat} (h : Below w.heap.size w w') : w.grownBy w' (some g) := ⟨h.os, h.tape, h.output, h.size, fun k hk _ => h.block k hk⟩
theorem gb_below {w w' : World} {g B : Nat} (h : w.grownBy w' (some g)) (hB : B ≤ g) (hw : B ≤ w.heap.size) : Below B w w' :=
  ⟨h.os, h.tape, h.output, h.size, fun k hk => h.block k (by omega) (fun e => by injection e with e; omega)⟩

theorem gb_set {w w1 : World} {g : Nat} (h : w.grownBy w1 (some g)) {p : Addr} (hp : w.heap.size ≤ p.block) (u : Value) : w.grownBy (w1.setCell p u) (some g) :=
  ⟨h.os, h.tape, h.output, by simpa using h.size, fun q hq hne => (Below.heap_setCell w1 p u q (by omega)).trans (h.block q hq hne)⟩
theorem gb_app {w w1 w2 : World} {g : Nat} {row : Option Nat} (h : w.grownBy w1 (some g)) (hg : w1.grownBy w2 row) (hr : ∀ q, row = some q → w.heap.size ≤ q) : w.grownBy w2 (some g) :=
  ⟨hg.os.trans h.os, hg.tape.trans h.tape, hg.output.trans h.output, Nat.le_trans h.size hg.size, fun q hq hne => (hg.block q (Nat.lt_of_lt_of_le hq h.size) (fun e => by have := hr q e.symm; omega)).trans (h.block q hq hne)⟩
theorem gb_al {w w1 : World} {g : Nat} (h : w.grownBy w1 (some g)) (o : Obj) : w.grownBy (w1.alloc o) (some g) := h.trans (World.grownBy_alloc _ _ _)
theorem gb_bel {w w1 w2 : World} {g : Nat} (h : w.grownBy w1 (some g)) (b : Below w1.heap.size w1 w2) : w.grownBy w2 (some g) := h.trans (below_grownG b)

theorem sv_pick (m : Int) (hm : m ≤ 200) {w : World} {g : Nat} {A : Option Addr} {c : Nat} {bs : List Int} {b : Nat} (h : Sv w g A c bs b) (hb : b ≤ 1152921504606846000) :
    Calls Tryd.prog 96 #[.pointer (some ⟨g, 0, none⟩), .int .i64 m] w fun e w' => ∃ x : Int, e = .returned (.int .i64 x) ∧ 0 ≤ x ∧ (x < m ∨ x = 0) ∧ Sv w' g A c bs (b + 1) ∧ w.grownBy w' (some g) ∧ w'.heap.size = w.heap.size := by
  by_cases h1 : m ≤ 1
  · have d1 : decide (m ≤ 1) = true := decide_eq_true h1
    go_enter Tryd.func96, Tryd.ntmps96
    go_wp2_with (fail)
    go_ret
    exact ⟨0, rfl, by decide, .inr rfl, h.mono (by omega), ⟨rfl, rfl, rfl, Nat.le_refl _, fun _ _ _ => rfl⟩, rfl⟩
  · obtain ⟨p, s, q1, q2, q3⟩ := h.ex
    refine (spec_pick m g A c p s bs w q1 h.bytes (by omega) q2 ⟨by omega, hm⟩).mono ?_
    rintro e w2 ⟨x, s', n, rfl, hx, rfl⟩
    obtain ⟨k1, k2, k3⟩ := h.next q1 (n := n) q3 hx.2.1
    exact ⟨_, rfl, Int.emod_nonneg x (by omega), .inl (Int.emod_lt_of_pos x (by omega)), k1, k2, k3⟩

theorem sv_one (m : Int) (hm : 2 ≤ m ∧ m ≤ 200) {w : World} {g : Nat} {A : Option Addr} {c : Nat} {bs : List Int} {b : Nat} (h : Sv w g A c bs b) (hb : b ≤ 1152921504606846000) :
    Calls Tryd.prog 97 #[.pointer (some ⟨g, 0, none⟩), .int .i64 m] w fun e w' => ∃ x : Bool, e = .returned (.bool x) ∧ Sv w' g A c bs (b + 1) ∧ w.grownBy w' (some g) ∧ w'.heap.size = w.heap.size := by
  obtain ⟨p, s, q1, q2, q3⟩ := h.ex
  refine (spec_one m g A c p s bs w q1 h.bytes (by omega) q2 hm).mono ?_
  rintro e w2 ⟨y, x, s', n, rfl, hx, rfl⟩
  obtain ⟨k1, k2, k3⟩ := h.next q1 (n := n) q3 hx.2.1
  exact ⟨_, rfl, k1, k2, k3⟩

theorem sv_among (l : List Int) (L : Option Addr) (d : Nat) (hl : 2 ≤ l.length ∧ l.length ≤ 200) {w : World} {g : Nat} {A : Option Addr} {c : Nat} {bs : List Int} {b : Nat} (h : Sv w g A c bs b) (hb : b ≤ 1152921504606846000) (hL : Ints w L l) (hLg : ∀ a, L = some a → a.block ≠ g) :
    Calls Tryd.prog 98 #[.pointer (some ⟨g, 0, none⟩), .slice L l.length d] w fun e w' => ∃ y : Int, e = .returned (.int .i64 y) ∧ y ∈ l ∧ Sv w' g A c bs (b + 1) ∧ w.grownBy w' (some g) ∧ w'.heap.size = w.heap.size := by
  obtain ⟨p, s, q1, q2, q3⟩ := h.ex
  refine (spec_among l L d g A c p s bs w q1 h.bytes (by omega) q2 hL hLg hl).mono ?_
  rintro e w2 ⟨x, y, s', n, rfl, hy, hx, rfl⟩
  obtain ⟨k1, k2, k3⟩ := h.next q1 (n := n) q3 hx.2.1
  exact ⟨_, rfl, List.mem_of_getElem? hy, k1, k2, k3⟩

theorem spec_l00From (A : Option Addr) (c : Nat) (bs : List Int) (w : World) (hby : Bytes w A bs) (hl : bs.length ≤ 1099511627776) :
    Calls Tryd.prog 64 #[.slice A bs.length c] w fun e w' => e = .returned (.pointer (some ⟨w.heap.size, 0, none⟩)) ∧ Sv w' w.heap.size A c bs 0 ∧ Below w.heap.size w w' ∧ w'.heap.size = w.heap.size + 1 := by
  have kb := Blk.new w 108 #[.slice A bs.length c, .int .i64 0, .int .u64 0]
  go_enter Tryd.func64, Tryd.ntmps64
  go_wp2_with (fail)
  go_ret
  have hb : Below w.heap.size w (w.alloc (.cells #[.slice A bs.length c, .int .i64 0, .int .u64 0] 108)) := by (repeat (first | exact Below.refl _ _ | assumption | apply Below.drew | apply below_drewN | (refine Below.alloc ?_ (by first | omega | (simp; done) | (simp; omega)) _) | (refine Below.setCell ?_ (by first | omega | (simp; done) | (simp; omega)) _)))
  refine ⟨rfl, ⟨⟨0, 0, kb, by decide, Nat.le_refl _⟩, hby.of_cells (cells_below hb), fun h0 a ha => ?_, hl⟩, hb, by simp⟩
  obtain ⟨b, off, x, hA, _, hc, _⟩ := hby 0 h0
  have h2 := cell_lt hc
  rw [ha] at hA
  injection hA with hA
  subst hA
  exact h2

end Go.Proofs.YtcgbogofmdjddaaDoor
