/- ChartOfBraid: the plain function; slices of rows that grow. -/
import Derived.Test.YtfgbhhkmdeljoaaROt
import Derived.Test.YtfgbhhkmdeljoaaMC
import Derived.Test.YtfgbhhkmdeljoaaPKt
namespace Go.Proofs.Ytfgbhhkmdeljoaa
open Go.RowKit

structure ChX where
  n : Int
  xs : List RowD
def rowsFrom (n : Nat) (car : Int) : List (List Int) → Int → List RowD
  | [], _ => []
  | g :: gs, d => ⟨d, car, rowFrom n g 0⟩ :: rowsFrom n car gs (-d)
def groupsOf (xs : List Int) : List (List Int) := if pack xs = [] then [[]] else pack xs
def cobCode (n : Int) (xs : List Int) (car : Int) : Int := if braidB n xs then (if inR n 1 8 && carrierB car then (if (pack xs).length ≤ 8 then 0 else 5) else 2) else 1
def cobX (n : Int) (xs : List Int) (car : Int) : ChX := if cobCode n xs car = 0 then ⟨n, rowsFrom n.toNat car (groupsOf xs) (-1)⟩ else ⟨0, []⟩
theorem rowsFrom_length (n : Nat) (car : Int) (gs : List (List Int)) (d : Int) : (rowsFrom n car gs d).length = gs.length := by
  induction gs generalizing d with
  | nil => rfl
  | cons g gs ih => simp [rowsFrom, ih]
theorem rowsFrom_len (n : Nat) (car : Int) (gs : List (List Int)) (d : Int) : lenRows (rowsFrom n car gs d) ≤ gs.length * n := by
  induction gs generalizing d with
  | nil => simp [rowsFrom, lenRows]
  | cons g gs ih =>
    have h1 := ih (-d)
    have h2 := rowFrom_length n g n 0 (by omega)
    simp only [rowsFrom, lenRows, List.length_cons, Nat.succ_mul]
    omega
theorem cobX_size (n : Int) (xs : List Int) (car : Int) : (cobX n xs car).xs.length ≤ 9 ∧ cntRows (cobX n xs car).xs ≤ 1000 := by
  unfold cobX
  split
  · rename_i h
    have hp : (pack xs).length ≤ 8 ∧ n ≤ 8 := by
      unfold cobCode at h
      split at h
      · split at h
        · rename_i h2
          simp only [Bool.and_eq_true] at h2
          have := inR_iff.1 h2.1
          split at h
          · exact ⟨by assumption, this.2⟩
          · simp at h
        · simp at h
      · simp at h
    have hg : (groupsOf xs).length ≤ 8 := by
      unfold groupsOf
      split
      · simp
      · exact hp.1
    have h1 := rowsFrom_length n.toNat car (groupsOf xs) (-1)
    have h2 := rowsFrom_len n.toNat car (groupsOf xs) (-1)
    have h3 : (groupsOf xs).length * n.toNat ≤ 8 * 8 := Nat.mul_le_mul hg (by omega)
    refine ⟨by simp only []; omega, ?_⟩
    unfold cntRows
    simp only []
    omega
  · simp [cntRows, lenRows]
theorem cob_err {n : Int} {xs : List Int} {car k : Int} (e : cobCode n xs car = k) (hk : k ≠ 0) : cobX n xs car = ⟨0, []⟩ ∧ cobCode n xs car = k := ⟨by rw [cobX, if_neg (by rw [e]; exact hk)], e⟩
theorem rowsFrom_drop {n : Nat} {car : Int} {gs : List (List Int)} {i : Nat} {g : List Int} {d : Int} (h : gs[i]? = some g) : rowsFrom n car (gs.drop i) d = ⟨d, car, rowFrom n g 0⟩ :: rowsFrom n car (gs.drop (i + 1)) (-d) := by rw [drop_cons h, rowsFrom]

theorem CellsRows.keepT {w w' : World} {lo hi : Nat} {cs : List Value} {rs : List RowD} (h : CellsRows w lo hi cs rs) (hk : ∀ k cur, lo ≤ k → k < hi → w.heap[k]? = some (.cells cur 2 (0, 0)) → w'.heap[k]? = w.heap[k]?) : CellsRows w' lo hi cs rs :=
  ⟨h.1, fun k r hx => by obtain ⟨A', c', h0, h1, h2, h3⟩ := h.2.1 k r hx; exact ⟨A', c', h0, h1, h2, h3.keepT hk⟩, h.2.2⟩
theorem CellsRows.grownT {w w' : World} {lo hi : Nat} {cs : List Value} {rs : List RowD} {lo2 hi2 : Nat} {e2 : TypeId} {sz2 : Nat} {B : Option Addr} {n2 c2 : Nat} {cs2 : List Value}
    (h : CellsRows w lo hi cs rs) (h2 : OwnC w lo2 hi2 e2 sz2 B n2 c2 cs2) (ht : (2 : TypeId) ≠ e2) (hg : w.grownBy w' (Value.slice B n2 c2).ownBlock) : CellsRows w' lo hi cs rs :=
  ⟨h.1, fun k r hx => by obtain ⟨A', c', h0, h1, h3, h4⟩ := h.2.1 k r hx; exact ⟨A', c', h0, h1, h3, h4.grownT h2 ht hg⟩, h.2.2⟩
theorem CellsRows.farT {w : World} {lo hi : Nat} {cs : List Value} {rs : List RowD} {g : Nat} {t : TypeId} {bs : Array Value} (h : CellsRows w lo hi cs rs) (hb : Blk w g t bs) (ht : t ≠ 2) (j : Nat) (u : Value) : CellsRows (w.setCell ⟨g, j, none⟩ u) lo hi cs rs :=
  ⟨h.1, fun k r hx => by obtain ⟨A', c', h0, h1, h3, h4⟩ := h.2.1 k r hx; exact ⟨A', c', h0, h1, h3, h4.farT hb ht j u⟩, h.2.2⟩
/-- One more row, its stitches in blocks behind those of the others. -/
theorem CellsRows.snoc {w : World} {lo m hi : Nat} {cs : List Value} {rs : List RowD} {A' : Option Addr} {c' : Nat} {r : RowD}
    (h : CellsRows w lo m cs rs) (ho : OwnI w m hi A' c' r.s) (h1 : lo ≤ m) (h2 : m ≤ hi) : CellsRows w lo hi (cs ++ [.int .i64 r.d, .int .i64 r.r, .slice A' r.s.length c']) (rs ++ [r]) := by
  have hB : ∀ {i : Nat} {v : Value} {g : Nat}, cs[i]? = some v → v.ownBlock = some g → lo ≤ g ∧ g < m := fun hi' hv => by have := h.block hi' hv; exact ⟨this.1, this.2.1⟩
  obtain ⟨ha, hb, hc⟩ := h
  have at2 : ∀ i v, ¬ i < cs.length → (cs ++ [.int .i64 r.d, .int .i64 r.r, .slice A' r.s.length c'])[i]? = some v → (i = cs.length ∧ v = .int .i64 r.d) ∨ (i = cs.length + 1 ∧ v = .int .i64 r.r) ∨ (i = cs.length + 2 ∧ v = .slice A' r.s.length c') := by
    intro i v hn hv
    have hil := (List.getElem?_eq_some_iff.1 hv).1
    simp at hil
    rw [List.getElem?_append_right (by omega)] at hv
    have : i - cs.length = 0 ∨ i - cs.length = 1 ∨ i - cs.length = 2 := by omega
    rcases this with e | e | e
    · rw [e] at hv; simp at hv; exact .inl ⟨by omega, hv.symm⟩
    · rw [e] at hv; simp at hv; exact .inr (.inl ⟨by omega, hv.symm⟩)
    · rw [e] at hv; simp at hv; exact .inr (.inr ⟨by omega, hv.symm⟩)
  refine ⟨by simp [ha]; omega, fun k q hq => ?_, fun i j v v' g hi' hj hv hv' => ?_⟩
  · rcases Nat.lt_or_ge k rs.length with hk | hk
    · rw [List.getElem?_append_left hk] at hq
      obtain ⟨A2, c2, e0, e1, e2, e3⟩ := hb k q hq
      exact ⟨A2, c2, by rw [List.getElem?_append_left (by omega)]; exact e0, by rw [List.getElem?_append_left (by omega)]; exact e1, by rw [List.getElem?_append_left (by omega)]; exact e2, e3.mono (Nat.le_refl _) h2⟩
    · have hkl := (List.getElem?_eq_some_iff.1 hq).1
      simp at hkl
      obtain rfl : k = rs.length := by omega
      simp at hq
      subst hq
      refine ⟨A', c', ?_, ?_, ?_, ho.mono h1 (Nat.le_refl _)⟩
      · rw [List.getElem?_append_right (by omega), ha, Nat.sub_self]; rfl
      · rw [List.getElem?_append_right (by omega), ha, show rs.length * 3 + 1 - rs.length * 3 = 1 by omega]; rfl
      · rw [List.getElem?_append_right (by omega), ha, show rs.length * 3 + 2 - rs.length * 3 = 2 by omega]; rfl
  · have new : (Value.slice A' r.s.length c').ownBlock = some g → m ≤ g := fun e => (ho.own.lt g e).1
    by_cases ei : i < cs.length
    · have bi := hB (by rw [List.getElem?_append_left ei] at hi'; exact hi') hv
      by_cases ej : j < cs.length
      · rw [List.getElem?_append_left ei] at hi'
        rw [List.getElem?_append_left ej] at hj
        exact hc i j v v' g hi' hj hv hv'
      · rcases at2 j v' ej hj with ⟨_, rfl⟩ | ⟨_, rfl⟩ | ⟨_, rfl⟩
        · simp [Value.ownBlock] at hv'
        · simp [Value.ownBlock] at hv'
        · have := new hv'; omega
    · rcases at2 i v ei hi' with ⟨_, rfl⟩ | ⟨_, rfl⟩ | ⟨e1, rfl⟩
      · simp [Value.ownBlock] at hv
      · simp [Value.ownBlock] at hv
      · by_cases ej : j < cs.length
        · have bj := hB (by rw [List.getElem?_append_left ej] at hj; exact hj) hv'
          have := new hv
          omega
        · rcases at2 j v' ej hj with ⟨_, rfl⟩ | ⟨_, rfl⟩ | ⟨e2, rfl⟩
          · simp [Value.ownBlock] at hv'
          · simp [Value.ownBlock] at hv'
          · omega
theorem CellsRows.nil {w : World} {lo hi : Nat} : CellsRows w lo hi [] [] := ⟨rfl, fun k r hx => by simp at hx, fun i j v v' g hi' => by simp at hi'⟩
theorem Ints.drew1 {w : World} {A : Option Addr} {xs : List Int} (h : Ints w A xs) : Ints (World.drew w) A xs := h
/-- A box (columns, rows) whose slice of rows has grown to k rows. -/
def ChartInv (n : Int) (hB : Nat) (wB wr : World) (k : Nat) (done : List RowD) : Prop :=
  done.length = k ∧ Below hB wB wr ∧ hB < wr.heap.size ∧ ∃ A' c' cs, Blk wr hB 29 #[.int .i64 n, .slice A' k c'] ∧ OwnC wr (hB + 1) wr.heap.size 60 3 A' k c' cs ∧ CellsRows wr (hB + 1) wr.heap.size cs done
theorem ChartInv.start (n : Int) (wB : World) : ChartInv n wB.heap.size wB (wB.alloc (.cells #[.int .i64 n, .slice none 0 0] 29)) 0 [] :=
  ⟨rfl, by (repeat (first | exact Below.refl _ _ | assumption | apply Below.drew | apply below_drewN | (refine Below.alloc ?_ (by first | omega | (simp; done) | (simp; omega)) _) | (refine Below.setCell ?_ (by first | omega | (simp; done) | (simp; omega)) _))), by simp, none, 0, [], Blk.new _ _ _, OwnC.nil _ _ _ _ _, CellsRows.nil⟩
theorem ChartInv.step {n : Int} {hB k : Nat} {wB wr w4 w5 : World} {done : List RowD} {A' : Option Addr} {c' : Nat} {cs : List Value} {A4 A5 : Option Addr} {c4 c5 : Nat} (r : RowD)
    (hl : done.length = k) (hb : Below hB wB wr) (hlt : hB < wr.heap.size) (kb : Blk wr hB 29 #[.int .i64 n, .slice A' k c']) (ho : OwnC wr (hB + 1) wr.heap.size 60 3 A' k c' cs) (hc : CellsRows wr (hB + 1) wr.heap.size cs done)
    (b4 : Below wr.heap.size wr w4) (o4 : OwnI w4 wr.heap.size w4.heap.size A4 c4 r.s) (ho5 : OwnC w5 (hB + 1) w5.heap.size 60 3 A5 (k + 1) c5 (cs ++ [.int .i64 r.d, .int .i64 r.r, .slice A4 r.s.length c4]))
    (hg : (w4.alloc (.cells #[.int .i64 r.d, .int .i64 r.r, .slice A4 r.s.length c4] 60)).grownBy w5 (Value.slice A' k c').ownBlock) (hb5 : Below (hB + 1) w4 w5) (hz5 : w4.heap.size < w5.heap.size) :
    ChartInv n hB wB (w5.setCell ⟨hB, 1, none⟩ (.slice A5 (k + 1) c5)) (k + 1) (done ++ [r]) := by
  have z4 := b4.size
  have t1 : (29 : TypeId) ≠ 2 := by decide
  have t2 : (29 : TypeId) ≠ 60 := by decide
  have t3 : (2 : TypeId) ≠ 60 := by decide
  have ho4 := (ho.below b4 (Nat.le_refl _)).alloc (.cells #[.int .i64 r.d, .int .i64 r.r, .slice A4 r.s.length c4] 60)
  have kb5 := ((kb.below b4 hlt).alloc (.cells #[.int .i64 r.d, .int .i64 r.r, .slice A4 r.s.length c4] 60)).grownT ho4 t2 hg
  have hc4 : CellsRows w4 (hB + 1) wr.heap.size cs done := hc.keep fun q _ h2 _ => b4.block q h2
  have hc4' : CellsRows (w4.alloc (.cells #[.int .i64 r.d, .int .i64 r.r, .slice A4 r.s.length c4] 60)) (hB + 1) wr.heap.size cs done := hc4.keep fun q _ _ h3 => Below.heap_alloc w4 _ q h3
  have hc5 := hc4'.grownT ho4 t3 hg
  have o5 := (o4.alloc (.cells #[.int .i64 r.d, .int .i64 r.r, .slice A4 r.s.length c4] 60)).grownT ho4 t3 hg
  have b5 : Below hB wB w5 := (hb.trans (b4.mono (by omega))).trans (hb5.mono (by omega))
  refine ⟨by simp [hl], by (repeat (first | exact Below.refl _ _ | assumption | apply Below.drew | apply below_drewN | (refine Below.alloc ?_ (by first | omega | (simp; done) | (simp; omega)) _) | (refine Below.setCell ?_ (by first | omega | (simp; done) | (simp; omega)) _))), by simp; omega, A5, c5, cs ++ [.int .i64 r.d, .int .i64 r.r, .slice A4 r.s.length c4], by simpa using kb5.set21 (.slice A5 (k + 1) c5), ?_, ?_⟩
  · exact (ho5.farT kb5 t2 1 _).mono (Nat.le_refl _) (by simp)
  · exact ((hc5.snoc o5 (by omega) (by omega)).farT kb5 t1 1 _).mono (Nat.le_refl _) (by simp; omega)
theorem ChartInv.rows {n : Int} {hB k : Nat} {wB wr : World} {done : List RowD} (h : ChartInv n hB wB wr k done) : ∃ A' c', Blk wr hB 29 #[.int .i64 n, .slice A' k c'] ∧ OwnRows wr (hB + 1) wr.heap.size A' k c' done := by
  obtain ⟨_, _, _, A', c', cs, hk, ho, hc⟩ := h
  exact ⟨A', c', hk, ⟨cs, ho, hc⟩⟩
theorem OwnRows.farT {w : World} {lo hi n : Nat} {A : Option Addr} {c : Nat} {rs : List RowD} {g : Nat} {t : TypeId} {bs : Array Value} (h : OwnRows w lo hi A n c rs) (hb : Blk w g t bs) (t1 : t ≠ 2) (t2 : t ≠ 60) (j : Nat) (u : Value) : OwnRows (w.setCell ⟨g, j, none⟩ u) lo hi A n c rs := by
  obtain ⟨cs, ho, hc⟩ := h.ex
  exact ⟨cs, ho.farT hb t2 j u, hc.farT hb t1 j u⟩
theorem OwnRows.nil (w : World) (lo hi : Nat) : OwnRows w lo hi none 0 0 [] := ⟨[], OwnC.nil _ _ _ _ _, CellsRows.nil⟩

end Go.Proofs.Ytfgbhhkmdeljoaa
