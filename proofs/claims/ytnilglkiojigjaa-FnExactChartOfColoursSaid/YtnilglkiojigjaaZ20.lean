/- Steps of the proof, joined from several texts: CG CH. -/
import Derived.Test.YtnilglkiojigjaaZ13
import Derived.Test.YtnilglkiojigjaaZ4
import Derived.Test.YtnilglkiojigjaaZ7
import Derived.Test.YtnilglkiojigjaaZ9
import Derived.Test.YtnilglkiojigjaaZ14

/- Charts of colour charts: the plain functions. -/
namespace Go.Proofs.Ytnilglkiojigjaa
open Go Go.RowKit

def knitRow (row : List Int) (k : Int) : List Int := row.map fun x => if x = k then 1 else 7
theorem knitRow_length (row : List Int) (k : Int) : (knitRow row k).length = row.length := by simp [knitRow]
theorem knitRow_snoc {row : List Int} {k x : Int} {j : Nat} (h : row[j]? = some x) : knitRow (row.take (j + 1)) k = knitRow (row.take j) k ++ [if x = k then 1 else 7] := by
  rw [take_snoc h, knitRow, List.map_append]
  rfl
structure ColSt where
  ds : List Int
  rows : List RowD
/-- The direction of a carrier's next row, of its last one and the number of rows until now. -/
def dirOf (x : Int) (m : Nat) : Int := if x = 0 then (if m = 0 then -1 else 1) else -x
def colStep (row : List Int) (st : ColSt) (k : Nat) : ColSt :=
  if (k : Int) + 1 ∈ row then ⟨st.ds.set k (dirOf (st.ds[k]?.getD 0) st.rows.length), st.rows ++ [⟨dirOf (st.ds[k]?.getD 0) st.rows.length, (k : Int) + 1, knitRow row ((k : Int) + 1)⟩]⟩ else st
def colTo (row : List Int) (st : ColSt) (m : Nat) : ColSt := (List.range m).foldl (colStep row) st
theorem colTo_zero (row : List Int) (st : ColSt) : colTo row st 0 = st := rfl
theorem colTo_succ (row : List Int) (st : ColSt) (m : Nat) : colTo row st (m + 1) = colStep row (colTo row st m) m := by
  unfold colTo
  rw [List.range_succ, List.foldl_append]
  rfl
def colAll (xss : List (List Int)) : ColSt := xss.foldl (fun st row => colTo row st 4) ⟨[0, 0, 0, 0], []⟩
theorem colAll_snoc {xss : List (List Int)} {k : Nat} {row : List Int} (h : xss[k]? = some row) : colAll (xss.take (k + 1)) = colTo row (colAll (xss.take k)) 4 := by
  unfold colAll
  rw [take_snoc h, List.foldl_append]
  rfl
structure ColOk (st : ColSt) (m : Nat) : Prop where
  len : st.ds.length = 4
  dir : ∀ d ∈ st.ds, d = 0 ∨ d = 1 ∨ d = -1
  size : st.rows.length ≤ m
theorem ColOk.start : ColOk ⟨[0, 0, 0, 0], []⟩ 0 := ⟨rfl, by simp, by simp⟩
theorem colStep_yes {row : List Int} {st : ColSt} {k : Nat} {x : Int} (h : (k : Int) + 1 ∈ row) (hx : st.ds[k]? = some x) :
    colStep row st k = ⟨st.ds.set k (dirOf x st.rows.length), st.rows ++ [⟨dirOf x st.rows.length, (k : Int) + 1, knitRow row ((k : Int) + 1)⟩]⟩ := by
  rw [colStep, if_pos h, hx]
  rfl
theorem colStep_no {row : List Int} {st : ColSt} {k : Nat} (h : ¬ (k : Int) + 1 ∈ row) : colStep row st k = st := by rw [colStep, if_neg h]
theorem dirOf_val {x : Int} (m : Nat) (h : x = 0 ∨ x = 1 ∨ x = -1) : dirOf x m = 1 ∨ dirOf x m = -1 := by
  unfold dirOf
  split
  · split <;> simp
  · omega
theorem ColOk.step {row : List Int} {st : ColSt} {m k : Nat} (h : ColOk st m) (hk : k < 4) : ColOk (colStep row st k) (m + 1) := by
  by_cases hm : (k : Int) + 1 ∈ row
  · have hx : st.ds[k]? = some (st.ds[k]'(by rw [h.len]; exact hk)) := List.getElem?_eq_getElem _
    have hd := dirOf_val st.rows.length (h.dir _ (List.getElem_mem (by rw [h.len]; exact hk : k < st.ds.length)))
    rw [colStep_yes hm hx]
    refine ⟨by simp [h.len], fun d hd' => ?_, by simp [h.size]⟩
    rcases List.mem_or_eq_of_mem_set hd' with e | e
    · exact h.dir d e
    · subst e
      rcases hd with e | e <;> simp [e]
  · rw [colStep_no hm]
    exact ⟨h.len, h.dir, Nat.le_succ_of_le h.size⟩
theorem ColOk.to {row : List Int} {st : ColSt} {m k : Nat} (h : ColOk st m) (hk : k ≤ 4) : ColOk (colTo row st k) (m + k) := by
  induction k with
  | zero => exact h
  | succ k ih => rw [colTo_succ]; exact (ih (by omega)).step (by omega)
theorem ColOk.all (xss : List (List Int)) (k : Nat) (hk : k ≤ xss.length) : ColOk (colAll (xss.take k)) (4 * k) := by
  induction k with
  | zero => exact ColOk.start
  | succ k ih =>
    have hx : xss[k]? = some (xss[k]'(by omega)) := List.getElem?_eq_getElem _
    rw [colAll_snoc hx]
    exact (ih (by omega)).to (Nat.le_refl 4)
theorem ColOk.at {st : ColSt} {m k : Nat} (h : ColOk st m) (hk : k < 4) : ∃ x, st.ds[k]? = some x ∧ (x = 0 ∨ x = 1 ∨ x = -1) := by
  have hx : st.ds[k]? = some (st.ds[k]'(by rw [h.len]; exact hk)) := List.getElem?_eq_getElem _
  exact ⟨_, hx, h.dir _ (List.getElem_mem _)⟩

def cofRows (xss : List (List Int)) : List RowD := (colAll xss).rows
def cofX (n : Int) (xss : List (List Int)) : ChX := if coloursB n xss && chartB n (cofRows xss) then ⟨n, cofRows xss⟩ else ⟨0, []⟩
def cofCode (n : Int) (xss : List (List Int)) : Int := if coloursB n xss then (if chartB n (cofRows xss) then 0 else 5) else 1
theorem cof_bad {n : Int} {xss : List (List Int)} (h : coloursB n xss = false) : cofX n xss = ⟨0, []⟩ ∧ cofCode n xss = 1 := by simp [cofX, cofCode, h]
theorem cof_full {n : Int} {xss : List (List Int)} (h : coloursB n xss = true) (hc : chartB n (cofRows xss) = false) : cofX n xss = ⟨0, []⟩ ∧ cofCode n xss = 5 := by simp [cofX, cofCode, h, hc]
theorem cof_ok {n : Int} {xss : List (List Int)} (h : coloursB n xss = true) (hc : chartB n (cofRows xss) = true) : cofX n xss = ⟨n, cofRows xss⟩ ∧ cofCode n xss = 0 := by simp [cofX, cofCode, h, hc]
theorem colours_small {n : Int} {xss : List (List Int)} (h : coloursB n xss = true) : 1 ≤ n ∧ n ≤ 8 ∧ xss.length ≤ 8 ∧ ∀ row ∈ xss, (row.length : Int) = n := by
  unfold coloursB at h
  simp only [Bool.and_eq_true, List.all_eq_true, inR_iff] at h
  obtain ⟨⟨h1, h2⟩, h3⟩ := h
  refine ⟨h1.1, h1.2, by omega, fun row hr => ?_⟩
  have := h3 row hr
  unfold rowOfB at this
  simp only [Bool.and_eq_true, decide_eq_true_eq] at this
  exact this.1
theorem cofRows_small {n : Int} {xss : List (List Int)} (h : coloursB n xss = true) : (cofRows xss).length ≤ 32 := by
  have h8 := (colours_small h).2.2.1
  have := (ColOk.all xss xss.length (Nat.le_refl _)).size
  rw [take_all (Nat.le_refl _)] at this
  unfold cofRows
  omega

theorem cofX_size (n : Int) (xss : List (List Int)) : (cofX n xss).xs.length ≤ 9 ∧ cntRows (cofX n xss).xs ≤ 1000 := by
  refine ch_size ?_
  unfold cofX
  split
  · rename_i h
    simp only [Bool.and_eq_true] at h
    exact .inr h.2
  · exact .inl rfl

/-- A box (columns, rows) whose slice of rows has grown to k rows; the rows lie from block lo on. -/
def GrowInv (n : Int) (hB lo : Nat) (wr : World) (k : Nat) (done : List RowD) : Prop :=
  done.length = k ∧ hB < lo ∧ lo ≤ wr.heap.size ∧ ∃ A' c' cs, Blk wr hB 25 #[.int .i64 n, .slice A' k c'] ∧ OwnC wr lo wr.heap.size 66 3 A' k c' cs ∧ CellsRows wr lo wr.heap.size cs done
theorem GrowInv.rows {n : Int} {hB lo k : Nat} {wr : World} {done : List RowD} (h : GrowInv n hB lo wr k done) : ∃ A' c', Blk wr hB 25 #[.int .i64 n, .slice A' k c'] ∧ OwnRows wr lo wr.heap.size A' k c' done := by
  obtain ⟨_, _, _, A', c', cs, hk, ho, hc⟩ := h
  exact ⟨A', c', hk, ⟨cs, ho, hc⟩⟩
theorem GrowInv.step {n : Int} {hB lo hW k : Nat} {w4 w5 : World} {done : List RowD} {A' : Option Addr} {c' : Nat} {cs : List Value} {A4 A5 : Option Addr} {c4 c5 : Nat} (r : RowD)
    (hl : done.length = k) (hlt : hB < lo) (hlo : lo ≤ hW) (hW4 : hW ≤ w4.heap.size) (kb : Blk w4 hB 25 #[.int .i64 n, .slice A' k c']) (ho : OwnC w4 lo hW 66 3 A' k c' cs) (hc : CellsRows w4 lo hW cs done)
    (o4 : OwnI w4 hW w4.heap.size A4 c4 r.s) (ho5 : OwnC w5 lo w5.heap.size 66 3 A5 (k + 1) c5 (cs ++ [.int .i64 r.d, .int .i64 r.r, .slice A4 r.s.length c4]))
    (hg : (w4.alloc (.cells #[.int .i64 r.d, .int .i64 r.r, .slice A4 r.s.length c4] 66)).grownBy w5 (Value.slice A' k c').ownBlock) (hz5 : w4.heap.size < w5.heap.size) :
    GrowInv n hB lo (w5.setCell ⟨hB, 1, none⟩ (.slice A5 (k + 1) c5)) (k + 1) (done ++ [r]) := by
  have t1 : (25 : TypeId) ≠ 2 := by decide
  have t2 : (25 : TypeId) ≠ 66 := by decide
  have t3 : (2 : TypeId) ≠ 66 := by decide
  have ho4 := ho.alloc (.cells #[.int .i64 r.d, .int .i64 r.r, .slice A4 r.s.length c4] 66)
  have kb5 := (kb.alloc (.cells #[.int .i64 r.d, .int .i64 r.r, .slice A4 r.s.length c4] 66)).grownT ho4 t2 hg
  have hc4' : CellsRows (w4.alloc (.cells #[.int .i64 r.d, .int .i64 r.r, .slice A4 r.s.length c4] 66)) lo hW cs done := hc.keep fun q _ _ h3 => Below.heap_alloc w4 _ q h3
  have hc5 := hc4'.grownT ho4 t3 hg
  have o5 := (o4.alloc (.cells #[.int .i64 r.d, .int .i64 r.r, .slice A4 r.s.length c4] 66)).grownT ho4 t3 hg
  refine ⟨by simp [hl], hlt, by simp; omega, A5, c5, cs ++ [.int .i64 r.d, .int .i64 r.r, .slice A4 r.s.length c4], by simpa using kb5.set21 (.slice A5 (k + 1) c5), ?_, ?_⟩
  · exact (ho5.farT kb5 t2 1 _).mono (Nat.le_refl _) (by simp)
  · exact ((hc5.snoc o5 (by omega) (by omega)).farT kb5 t1 1 _).mono (Nat.le_refl _) (by simp; omega)

end Go.Proofs.Ytnilglkiojigjaa

/- Charts of colour charts: the given side. -/
namespace Go.Proofs.Ytnilglkiojigjaa
open Go Go.RowKit

set_option maxHeartbeats 1000000 in
theorem spec_l19Stitches (A : Option Addr) (c : Nat) (row : List Int) (k : Int) (w : World) (h : Ints w A row) (hl : row.length ≤ 1000) :
    Calls Try.prog 143 #[.slice A row.length c, .int .i64 k, .int .i64 0] w fun e w' => ∃ A' c', e = .returned (.slice A' (knitRow row k).length c') ∧ OwnI w' w.heap.size w'.heap.size A' c' (knitRow row k) ∧ Below w.heap.size w w' := by
  obtain ⟨i0, hi0, hz0, hz1, hz2⟩ := info_parts info_int64
  have o1 := (OwnC.lit (w := w) (lo := w.heap.size) (n := 0) 2 1 #[] (Nat.le_refl _) (Nat.zero_le _) rfl).mono (Nat.le_refl _) (show w.heap.size + 1 ≤ (w.alloc (.cells #[] 2)).heap.size by simp)
  have O1 := Lib.hid o1; clear o1
  have HLN := Lib.hid (knitRow_length row k)
  go_enter Try.func143, Try.ntmps143
  go_wp2_with (fail)
  go_loopw [7, 8] (fun ov iv wr => ∃ (j : Nat) (A' : Option Addr) (c' : Nat), j ≤ row.length ∧ iv = .int .i64 j ∧ ov = .slice A' j c' ∧ OwnC wr w.heap.size wr.heap.size 2 1 A' j c' ((knitRow (row.take j) k).map (Value.int .i64)) ∧ Below w.heap.size w wr) (fun _ iv _ => row.length - (intOf iv).toNat)
  case atStart => exact ⟨0, some ⟨w.heap.size, 0, none⟩, 0, Nat.zero_le _, rfl, rfl, O1.out, by (repeat (first | exact Below.refl _ _ | assumption | apply Below.drew | apply below_drewN | (refine Below.alloc ?_ (by first | omega | (simp; done) | (simp; omega)) _) | (refine Below.setCell ?_ (by first | omega | (simp; done) | (simp; omega)) _)))⟩
  case round =>
    clear O1
    obtain ⟨j, A', c', hj, rfl, rfl, ho, hb⟩ := hrel
    have hzs := hb.size
    by_cases hjl : j < row.length
    · obtain ⟨b, off, x, rfl, hc, hx⟩ := (h.below hb) j hjl
      have j1 : (0 : Int) ≤ (j : Int) := by omega
      have j2 : (j : Int) < (row.length : Int) := by omega
      by_cases hxk : x = k
      · have HX : Hid (knitRow (row.take (j + 1)) k = knitRow (row.take j) k ++ [1]) := Lib.hid (by rw [knitRow_snoc hx, if_pos hxk])
        have hxk' : (x == k) = true := by simp [hxk]
        clear hx hxk
        go_wp2_with (at_builtin; refine wpList_append1 wr [.int .i64 1] _ rfl (.tmp 25) (.tmp 26) _ rfl 2 i0 _ 1 8 Try.underlying22 hi0 hz0 hz1 hz2 rfl (by decide) rfl ho hzs 1 rfl rfl (by simp [Value.oneCell']) (by omega) (by decide) ?_; intro A2 c2 w2 ho2 hg2 hb2 hz2')
        refine ⟨⟨j + 1, A2, c2, by omega, by go_num, rfl, ?_, hb.trans (hb2.mono (Nat.le_refl _))⟩, by first | (simp [intOf]; done) | (simp [intOf]; omega)⟩
        rw [HX.out, List.map_append]
        exact ho2
      · have HX : Hid (knitRow (row.take (j + 1)) k = knitRow (row.take j) k ++ [7]) := Lib.hid (by rw [knitRow_snoc hx, if_neg hxk])
        have hxk' : (x == k) = false := by simp [hxk]
        clear hx hxk
        go_wp2_with (at_builtin; refine wpList_append1 wr [.int .i64 7] _ rfl (.tmp 28) (.tmp 29) _ rfl 2 i0 _ 1 8 Try.underlying22 hi0 hz0 hz1 hz2 rfl (by decide) rfl ho hzs 1 rfl rfl (by simp [Value.oneCell']) (by omega) (by decide) ?_; intro A2 c2 w2 ho2 hg2 hb2 hz2')
        refine ⟨⟨j + 1, A2, c2, by omega, by go_num, rfl, ?_, hb.trans (hb2.mono (Nat.le_refl _))⟩, by first | (simp [intOf]; done) | (simp [intOf]; omega)⟩
        rw [HX.out, List.map_append]
        exact ho2
    · obtain rfl : j = row.length := by omega
      rw [take_all (Nat.le_refl _)] at ho
      go_wp2_with (fail)
      refine (spec_l19Floats A c row 0 k _ (h.below hb) hl).mono ?_; rintro e w5 ⟨A5, c5, rfl, _, b5⟩
      have hb5 : Below w.heap.size w w5 := hb.trans (b5.mono hzs)
      have ho5 := (ho.below b5 (Nat.le_refl _)).mono (Nat.le_refl _) b5.size
      generalize (fRow 0 k row row.length).1.length = m
      go_wp2_with (fail)
      go_loopw [10] (fun iv wr => iv = .int .i64 0 ∧ wr = w5) (fun _ _ => 0)
      case atStart => exact ⟨rfl, rfl⟩
      case round =>
        obtain ⟨rfl, rfl⟩ := hrel
        by_cases hm : 0 < m
        · have hm' : decide ((0 : Int) < (m : Int)) = true := decide_eq_true (by omega)
          go_wp2_with (fail)
          go_ret
          refine ⟨A', c', by rw [HLN.out]; rfl, ?_, hb5⟩
          show OwnC _ _ _ _ _ _ _ _ _
          rw [HLN.out]
          exact ho5
        · have hm' : decide ((0 : Int) < (m : Int)) = false := decide_eq_false (by omega)
          go_wp2_with (fail)
          go_ret
          refine ⟨A', c', by rw [HLN.out]; rfl, ?_, hb5⟩
          show OwnC _ _ _ _ _ _ _ _ _
          rw [HLN.out]
          exact ho5

/-- What the loop over rows and carriers keeps: the result's box, the directions, the chart's box. -/
structure LInv (n : Int) (hZ hB gD lo : Nat) (wr : World) (st : ColSt) : Prop where
  kz : Blk wr hZ 25 #[.int .i64 0, .slice none 0 0]
  od : OwnC wr gD lo 2 1 (some ⟨gD, 0, none⟩) 4 4 (st.ds.map (Value.int .i64))
  gi : GrowInv n hB lo wr st.rows.length st.rows

end Go.Proofs.Ytnilglkiojigjaa
