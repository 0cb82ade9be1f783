/- Steps of the proof, joined from several texts: CG CH CI FLi CJ FLg. -/
import Derived.Test.YtnjgmhdmjaijgaaZ8
import Derived.Test.YtnjgmhdmjaijgaaZ3
import Derived.Test.YtnjgmhdmjaijgaaZ4
import Derived.Test.YtnjgmhdmjaijgaaZ5
import Derived.Test.YtnjgmhdmjaijgaaZ9
import Derived.Deep.DeepCutAuto
import Derived.Test.YtnjgmhdmjaijgaaZ2

/- Charts of colour charts: the plain functions. -/
namespace Go.Proofs.Ytnjgmhdmjaijgaa
open Go Go.RowKit

def knitRow (row : List Int) (k : Int) : List Int := row.map fun x => if x = k then 1 else 7
theorem knitRow_length (row : List Int) (k : Int) : (knitRow row k).length = row.length := by simp [knitRow]
theorem knitRow_snoc {row : List Int} {k x : Int} {j : Nat} (h : row[j]? = some x) : knitRow (row.take (j + 1)) k = knitRow (row.take j) k ++ [if x = k then 1 else 7] := by
  rw [take_snoc h, knitRow, List.map_append]
  rfl
structure ColSt where
  ds : List Int
  rows : List RowD
/-- The direction of a carrier's next row, of its last one and the number of rows until now. -/
def dirOf (x : Int) (m : Nat) : Int := if x = 0 then (if m = 0 then -1 else 1) else -x
def colStep (row : List Int) (st : ColSt) (k : Nat) : ColSt :=
  if (k : Int) + 1 ∈ row then ⟨st.ds.set k (dirOf (st.ds[k]?.getD 0) st.rows.length), st.rows ++ [⟨dirOf (st.ds[k]?.getD 0) st.rows.length, (k : Int) + 1, knitRow row ((k : Int) + 1)⟩]⟩ else st
def colTo (row : List Int) (st : ColSt) (m : Nat) : ColSt := (List.range m).foldl (colStep row) st
theorem colTo_zero (row : List Int) (st : ColSt) : colTo row st 0 = st := rfl
theorem colTo_succ (row : List Int) (st : ColSt) (m : Nat) : colTo row st (m + 1) = colStep row (colTo row st m) m := by
  unfold colTo
  rw [List.range_succ, List.foldl_append]
  rfl
def colAll (xss : List (List Int)) : ColSt := xss.foldl (fun st row => colTo row st 4) ⟨[0, 0, 0, 0], []⟩
theorem colAll_snoc {xss : List (List Int)} {k : Nat} {row : List Int} (h : xss[k]? = some row) : colAll (xss.take (k + 1)) = colTo row (colAll (xss.take k)) 4 := by
  unfold colAll
  rw [take_snoc h, List.foldl_append]
  rfl
structure ColOk (st : ColSt) (m : Nat) : Prop where
  len : st.ds.length = 4
  dir : ∀ d ∈ st.ds, d = 0 ∨ d = 1 ∨ d = -1
  size : st.rows.length ≤ m
theorem ColOk.start : ColOk ⟨[0, 0, 0, 0], []⟩ 0 := ⟨rfl, by simp, by simp⟩
theorem colStep_yes {row : List Int} {st : ColSt} {k : Nat} {x : Int} (h : (k : Int) + 1 ∈ row) (hx : st.ds[k]? = some x) :
    colStep row st k = ⟨st.ds.set k (dirOf x st.rows.length), st.rows ++ [⟨dirOf x st.rows.length, (k : Int) + 1, knitRow row ((k : Int) + 1)⟩]⟩ := by
  rw [colStep, if_pos h, hx]
  rfl
theorem colStep_no {row : List Int} {st : ColSt} {k : Nat} (h : ¬ (k : Int) + 1 ∈ row) : colStep row st k = st := by rw [colStep, if_neg h]
theorem dirOf_val {x : Int} (m : Nat) (h : x = 0 ∨ x = 1 ∨ x = -1) : dirOf x m = 1 ∨ dirOf x m = -1 := by
  unfold dirOf
  split
  · split <;> simp
  · omega
theorem ColOk.step {row : List Int} {st : ColSt} {m k : Nat} (h : ColOk st m) (hk : k < 4) : ColOk (colStep row st k) (m + 1) := by
  by_cases hm : (k : Int) + 1 ∈ row
  · have hx : st.ds[k]? = some (st.ds[k]'(by rw [h.len]; exact hk)) := List.getElem?_eq_getElem _
    have hd := dirOf_val st.rows.length (h.dir _ (List.getElem_mem (by rw [h.len]; exact hk : k < st.ds.length)))
    rw [colStep_yes hm hx]
    refine ⟨by simp [h.len], fun d hd' => ?_, by simp [h.size]⟩
    rcases List.mem_or_eq_of_mem_set hd' with e | e
    · exact h.dir d e
    · subst e
      rcases hd with e | e <;> simp [e]
  · rw [colStep_no hm]
    exact ⟨h.len, h.dir, Nat.le_succ_of_le h.size⟩
theorem ColOk.to {row : List Int} {st : ColSt} {m k : Nat} (h : ColOk st m) (hk : k ≤ 4) : ColOk (colTo row st k) (m + k) := by
  induction k with
  | zero => exact h
  | succ k ih => rw [colTo_succ]; exact (ih (by omega)).step (by omega)
theorem ColOk.all (xss : List (List Int)) (k : Nat) (hk : k ≤ xss.length) : ColOk (colAll (xss.take k)) (4 * k) := by
  induction k with
  | zero => exact ColOk.start
  | succ k ih =>
    have hx : xss[k]? = some (xss[k]'(by omega)) := List.getElem?_eq_getElem _
    rw [colAll_snoc hx]
    exact (ih (by omega)).to (Nat.le_refl 4)
theorem ColOk.at {st : ColSt} {m k : Nat} (h : ColOk st m) (hk : k < 4) : ∃ x, st.ds[k]? = some x ∧ (x = 0 ∨ x = 1 ∨ x = -1) := by
  have hx : st.ds[k]? = some (st.ds[k]'(by rw [h.len]; exact hk)) := List.getElem?_eq_getElem _
  exact ⟨_, hx, h.dir _ (List.getElem_mem _)⟩

def cofRows (xss : List (List Int)) : List RowD := (colAll xss).rows
def cofX (n : Int) (xss : List (List Int)) : ChX := if coloursB n xss && chartB n (cofRows xss) then ⟨n, cofRows xss⟩ else ⟨0, []⟩
def cofCode (n : Int) (xss : List (List Int)) : Int := if coloursB n xss then (if chartB n (cofRows xss) then 0 else 5) else 1
theorem cof_bad {n : Int} {xss : List (List Int)} (h : coloursB n xss = false) : cofX n xss = ⟨0, []⟩ ∧ cofCode n xss = 1 := by simp [cofX, cofCode, h]
theorem cof_full {n : Int} {xss : List (List Int)} (h : coloursB n xss = true) (hc : chartB n (cofRows xss) = false) : cofX n xss = ⟨0, []⟩ ∧ cofCode n xss = 5 := by simp [cofX, cofCode, h, hc]
theorem cof_ok {n : Int} {xss : List (List Int)} (h : coloursB n xss = true) (hc : chartB n (cofRows xss) = true) : cofX n xss = ⟨n, cofRows xss⟩ ∧ cofCode n xss = 0 := by simp [cofX, cofCode, h, hc]
theorem colours_small {n : Int} {xss : List (List Int)} (h : coloursB n xss = true) : 1 ≤ n ∧ n ≤ 8 ∧ xss.length ≤ 8 ∧ ∀ row ∈ xss, (row.length : Int) = n := by
  unfold coloursB at h
  simp only [Bool.and_eq_true, List.all_eq_true, inR_iff] at h
  obtain ⟨⟨h1, h2⟩, h3⟩ := h
  refine ⟨h1.1, h1.2, by omega, fun row hr => ?_⟩
  have := h3 row hr
  unfold rowOfB at this
  simp only [Bool.and_eq_true, decide_eq_true_eq] at this
  exact this.1
theorem cofRows_small {n : Int} {xss : List (List Int)} (h : coloursB n xss = true) : (cofRows xss).length ≤ 32 := by
  have h8 := (colours_small h).2.2.1
  have := (ColOk.all xss xss.length (Nat.le_refl _)).size
  rw [take_all (Nat.le_refl _)] at this
  unfold cofRows
  omega

theorem cofX_size (n : Int) (xss : List (List Int)) : (cofX n xss).xs.length ≤ 9 ∧ cntRows (cofX n xss).xs ≤ 1000 := by
  refine ch_size ?_
  unfold cofX
  split
  · rename_i h
    simp only [Bool.and_eq_true] at h
    exact .inr h.2
  · exact .inl rfl

/-- A box (columns, rows) whose slice of rows has grown to k rows; the rows lie from block lo on. -/
def GrowInv (n : Int) (hB lo : Nat) (wr : World) (k : Nat) (done : List RowD) : Prop :=
  done.length = k ∧ hB < lo ∧ lo ≤ wr.heap.size ∧ ∃ A' c' cs, Blk wr hB 57 #[.int .i64 n, .slice A' k c'] ∧ OwnC wr lo wr.heap.size 29 3 A' k c' cs ∧ CellsRows wr lo wr.heap.size cs done
theorem GrowInv.rows {n : Int} {hB lo k : Nat} {wr : World} {done : List RowD} (h : GrowInv n hB lo wr k done) : ∃ A' c', Blk wr hB 57 #[.int .i64 n, .slice A' k c'] ∧ OwnRows wr lo wr.heap.size A' k c' done := by
  obtain ⟨_, _, _, A', c', cs, hk, ho, hc⟩ := h
  exact ⟨A', c', hk, ⟨cs, ho, hc⟩⟩
theorem GrowInv.step {n : Int} {hB lo hW k : Nat} {w4 w5 : World} {done : List RowD} {A' : Option Addr} {c' : Nat} {cs : List Value} {A4 A5 : Option Addr} {c4 c5 : Nat} (r : RowD)
    (hl : done.length = k) (hlt : hB < lo) (hlo : lo ≤ hW) (hW4 : hW ≤ w4.heap.size) (kb : Blk w4 hB 57 #[.int .i64 n, .slice A' k c']) (ho : OwnC w4 lo hW 29 3 A' k c' cs) (hc : CellsRows w4 lo hW cs done)
    (o4 : OwnI w4 hW w4.heap.size A4 c4 r.s) (ho5 : OwnC w5 lo w5.heap.size 29 3 A5 (k + 1) c5 (cs ++ [.int .i64 r.d, .int .i64 r.r, .slice A4 r.s.length c4]))
    (hg : (w4.alloc (.cells #[.int .i64 r.d, .int .i64 r.r, .slice A4 r.s.length c4] 29)).grownBy w5 (Value.slice A' k c').ownBlock) (hz5 : w4.heap.size < w5.heap.size) :
    GrowInv n hB lo (w5.setCell ⟨hB, 1, none⟩ (.slice A5 (k + 1) c5)) (k + 1) (done ++ [r]) := by
  have t1 : (57 : TypeId) ≠ 2 := by decide
  have t2 : (57 : TypeId) ≠ 29 := by decide
  have t3 : (2 : TypeId) ≠ 29 := by decide
  have ho4 := ho.alloc (.cells #[.int .i64 r.d, .int .i64 r.r, .slice A4 r.s.length c4] 29)
  have kb5 := (kb.alloc (.cells #[.int .i64 r.d, .int .i64 r.r, .slice A4 r.s.length c4] 29)).grownT ho4 t2 hg
  have hc4' : CellsRows (w4.alloc (.cells #[.int .i64 r.d, .int .i64 r.r, .slice A4 r.s.length c4] 29)) lo hW cs done := hc.keep fun q _ _ h3 => Below.heap_alloc w4 _ q h3
  have hc5 := hc4'.grownT ho4 t3 hg
  have o5 := (o4.alloc (.cells #[.int .i64 r.d, .int .i64 r.r, .slice A4 r.s.length c4] 29)).grownT ho4 t3 hg
  refine ⟨by simp [hl], hlt, by simp; omega, A5, c5, cs ++ [.int .i64 r.d, .int .i64 r.r, .slice A4 r.s.length c4], by simpa using kb5.set21 (.slice A5 (k + 1) c5), ?_, ?_⟩
  · exact (ho5.farT kb5 t2 1 _).mono (Nat.le_refl _) (by simp)
  · exact ((hc5.snoc o5 (by omega) (by omega)).farT kb5 t1 1 _).mono (Nat.le_refl _) (by simp; omega)

end Go.Proofs.Ytnjgmhdmjaijgaa

/- Charts of colour charts: the given side. -/
namespace Go.Proofs.Ytnjgmhdmjaijgaa
open Go Go.RowKit

/-- What the loop over rows and carriers keeps: the result's box, the directions, the chart's box. -/
structure LInv (n : Int) (hZ hB gD lo : Nat) (wr : World) (st : ColSt) : Prop where
  kz : Blk wr hZ 57 #[.int .i64 0, .slice none 0 0]
  od : OwnC wr gD lo 2 1 (some ⟨gD, 0, none⟩) 4 4 (st.ds.map (Value.int .i64))
  gi : GrowInv n hB lo wr st.rows.length st.rows

end Go.Proofs.Ytnjgmhdmjaijgaa

/- Charts of colour charts: ChartOfColours, the given side. -/
namespace Go.Proofs.Ytnjgmhdmjaijgaa
open Go Go.RowKit

end Go.Proofs.Ytnjgmhdmjaijgaa

/- Floats: the program's floats, FloatsOf, LongestFloat. -/
namespace Go.Proofs.Ytnjgmhdmjaijgaa
open Go.RowKit

set_option maxHeartbeats 4000000 in
set_option maxRecDepth 20000 in
theorem impl_floats (n : Int) (A : Option Addr) (c : Nat) (xss : List (List Int)) (w : World) (h : Ints2 w A xss) (hv : coloursB n xss = true) :
    Calls Try.prog 38 #[.agg #[.int .i64 n, .slice A xss.length c]] w fun e w' => ∃ A' c', e = .returned (.slice A' (fAll xss xss.length).length c') ∧ OwnFloat w' w.heap.size w'.heap.size A' c' (fAll xss xss.length) ∧ Below w.heap.size w w' := by
  obtain ⟨i0, hi0, hz0, hz1, hz2⟩ := info_parts info_Float
  obtain ⟨_, hn8, _, hx8, hrow⟩ := colours_row hv
  have HROW := Lib.hid hrow; clear hrow
  have HV := Lib.hid hv; clear hv
  have o00 : OwnC ((w.alloc (.cells #[.int .i64 n, .slice A xss.length c] 43)).alloc (.cells #[] 52)) w.heap.size (w.heap.size + 2) 52 4 (some ⟨w.heap.size + 1, 0, none⟩) 0 0 [] := by
    have := OwnC.lit (w := w.alloc (.cells #[.int .i64 n, .slice A xss.length c] 43)) (lo := w.heap.size) (n := 0) 52 4 #[] (by simp) (Nat.zero_le _) rfl
    simpa using this
  have O00 := Lib.hid o00; clear o00
  go_enter Try.func38, Try.ntmps38
  go_wp2_with (fail)
  go_loopw [3, 14] (fun ov iv wr => ∃ (k : Nat) (A' : Option Addr) (c' : Nat), k ≤ xss.length ∧ iv = .int .i64 k ∧ ov = .slice A' (fAll xss k).length c' ∧ OwnFloat wr w.heap.size wr.heap.size A' c' (fAll xss k) ∧ Below w.heap.size w wr) (fun _ iv _ => xss.length - (intOf iv).toNat)
  case atStart =>
    exact ⟨0, some ⟨w.heap.size + 1, 0, none⟩, 0, Nat.zero_le _, rfl, rfl, O00.out.mono (Nat.le_refl _) (by simp), by (repeat (first | exact Below.refl _ _ | assumption | apply Below.drew | apply below_drewN | (refine Below.alloc ?_ (by first | omega | (simp; done) | (simp; omega)) _) | (refine Below.setCell ?_ (by first | omega | (simp; done) | (simp; omega)) _)))⟩
  case round =>
    clear O00
    obtain ⟨k, A', c', hk, rfl, rfl, ho, hb⟩ := hrel
    have hzs := hb.size
    by_cases hlt : k < xss.length
    · obtain ⟨b, off, A2, c2, row, rfl, hx, hc, hi, hxl⟩ := h k hlt
      have hr8 : row.length ≤ 8 := by have := HROW.out row (List.mem_of_getElem? hx); omega
      have hfa := fAll_small HV.out hk
      have hcr := cells_below hb _ _ hc
      have HX := Lib.hid hx; clear hx
      have HF : Hid (fAll xss (k + 1) = fAll xss k ++ fCar k row 4) := Lib.hid (fAll_succ HX.out)
      generalize fAll xss k = fs at ho HF hfa
      go_wp2_with (fail)
      go_loopw [3, 6] (fun ov jv ws => ∃ (j : Nat) (A' : Option Addr) (c' : Nat), j ≤ 4 ∧ jv = .int .i64 ((j : Int) + 1) ∧ ov = .slice A' (fs ++ fCar k row j).length c' ∧ OwnFloat ws w.heap.size ws.heap.size A' c' (fs ++ fCar k row j) ∧ Below w.heap.size w ws) (fun _ jv _ => 5 - (intOf jv).toNat)
      case atStart => exact ⟨0, A', c', Nat.zero_le _, rfl, by simp [fCar], by simpa [fCar] using ho, hb⟩
      case round =>
        clear ho hzs hcr
        obtain ⟨j, A3, c3, hj, rfl, rfl, ho, hs⟩ := hrel
        have hfc := fCar_length (k : Int) row j
        have hfj : (fCar (k : Int) row j).length ≤ 32 := Nat.le_trans hfc (Nat.mul_le_mul hj hr8)
        clear hfc
        have hlen : (fs ++ fCar k row j).length ≤ 300 := by simp; omega
        have HJ : Hid (fs ++ fCar k row (j + 1) = (fs ++ fCar k row j) ++ (fRow k ((j : Int) + 1) row row.length).1) := Lib.hid (by rw [fCar, List.append_assoc])
        generalize hL : fs ++ fCar k row j = L at ho hlen HJ ⊢
        have HL := Lib.hid hL; clear hL
        by_cases hjl : j < 4
        · have d4 : decide ((j : Int) + 1 ≤ 4) = true := decide_eq_true (by omega)
          go_wp2_with (fail)
          go_loopw [3, 7, 25] (fun ov lv mv wt => ∃ (m : Nat) (A' : Option Addr) (c' : Nat), m ≤ row.length ∧ mv = .int .i64 m ∧ lv = .int .i64 (fRow k ((j : Int) + 1) row m).2 ∧ ov = .slice A' (L ++ (fRow k ((j : Int) + 1) row m).1).length c' ∧ OwnFloat wt w.heap.size wt.heap.size A' c' (L ++ (fRow k ((j : Int) + 1) row m).1) ∧ Below w.heap.size w wt) (fun _ _ mv _ => row.length - (intOf mv).toNat)
          case atStart => exact ⟨0, A3, c3, Nat.zero_le _, rfl, rfl, by simp [fRow], by simpa [fRow] using ho, hs⟩
          case round =>
            clear ho
            obtain ⟨m, A4, c4, hm, rfl, rfl, rfl, ho, ht⟩ := hrel
            obtain ⟨hL1, hL2, hL3⟩ := fRow_last k ((j : Int) + 1) row m
            have hzt := ht.size
            by_cases hml : m < row.length
            · obtain ⟨b2, off2, x, rfl, hcx, hxx⟩ := hi m hml
              replace hcx := cells_below ht _ _ hcx
              have HS : Hid (fRow k ((j : Int) + 1) row (m + 1) = fStep k ((j : Int) + 1) (fRow k ((j : Int) + 1) row m) m x) := Lib.hid (fRow_succ hxx)
              clear hxx
              generalize fRow k ((j : Int) + 1) row m = s at ho HS hL1 hL2 hL3
              obtain ⟨f4, last⟩ := s
              simp only at ho hL1 hL2 hL3
              have hlen2 : (L ++ f4).length ≤ 400 := by simp; omega
              generalize hL' : L ++ f4 = L2 at ho hlen2 ⊢
              have HL2 := Lib.hid hL'; clear hL'
              by_cases hxc : x = (j : Int) + 1
              · have hxc' : (x != (j : Int) + 1) = false := by simp [hxc]
                by_cases h1 : 0 ≤ last ∧ last + 1 < m
                · have HT : Hid (fRow k ((j : Int) + 1) row (m + 1) = (f4 ++ [⟨k, (j : Int) + 1, last, m⟩], (m : Int))) := Lib.hid (by rw [HS.out, fStep, if_pos hxc, if_pos h1])
                  obtain ⟨h1, h2⟩ := h1
                  clear hxc
                  set_option maxRecDepth 20000 in go_wp2_with (at_builtin; refine wpList_append1 wr [.int .i64 k, .int .i64 ((j : Int) + 1), .int .i64 last, .int .i64 m] _ rfl (.tmp 41) (.tmp 47) _ rfl 52 i0 _ 4 32 Try.underlying46 hi0 hz0 hz1 hz2 rfl (by decide) rfl ho hzt 1 rfl rfl (by simp [Value.oneCell']) (by omega) (by decide) ?_; intro A5 c5 w5 ho5 hg5 hb5 hz5')
                  go_roundw
                  case rel =>
                    refine ⟨m + 1, A5, c5, by omega, by go_num, by rw [HT.out], by rw [HT.out, ← List.append_assoc, HL2.out, List.length_append]; rfl, ?_, ht.trans hb5⟩
                    rw [HT.out, ← List.append_assoc, HL2.out]
                    show OwnC _ _ _ _ _ _ _ _ _
                    rw [cellsFloat_snoc, List.length_append]
                    exact ho5
                  case measure => simp [intOf]; omega
                · have HT : Hid (fRow k ((j : Int) + 1) row (m + 1) = (f4, (m : Int))) := Lib.hid (by rw [HS.out, fStep, if_pos hxc, if_neg h1])
                  clear hxc
                  by_cases h2 : 0 ≤ last
                  · have h3 : ¬ last + 1 < m := fun h => h1 ⟨h2, h⟩
                    clear h1
                    set_option maxRecDepth 20000 in go_wp2_with (fail)
                    go_roundw
                    case rel => exact ⟨m + 1, A4, c4, by omega, by go_num, by rw [HT.out], by rw [HT.out, HL2.out], by rw [HT.out, HL2.out]; exact ho, ht⟩
                    case measure => simp [intOf]; omega
                  · clear h1
                    set_option maxRecDepth 20000 in go_wp2_with (fail)
                    go_roundw
                    case rel => exact ⟨m + 1, A4, c4, by omega, by go_num, by rw [HT.out], by rw [HT.out, HL2.out], by rw [HT.out, HL2.out]; exact ho, ht⟩
                    case measure => simp [intOf]; omega
              · have hxc' : (x != (j : Int) + 1) = true := by simpa using hxc
                have HT : Hid (fRow k ((j : Int) + 1) row (m + 1) = (f4, last)) := Lib.hid (by rw [HS.out, fStep, if_neg hxc])
                clear hxc
                set_option maxRecDepth 20000 in go_wp2_with (fail)
                go_roundw
                case rel => exact ⟨m + 1, A4, c4, by omega, by go_num, by rw [HT.out], by rw [HT.out, HL2.out], by rw [HT.out, HL2.out]; exact ho, ht⟩
                case measure => simp [intOf]; omega
            · have hml' : m = row.length := by omega
              subst hml'
              go_wp2_with (fail)
              go_roundw
              case rel => exact ⟨j + 1, A4, c4, by omega, by go_num, by rw [HJ.out], by rw [HJ.out]; exact ho, ht⟩
              case measure => simp [intOf]; omega
        · have hj4 : j = 4 := by omega
          subst hj4
          go_wp2_with (fail)
          go_roundw
          case rel => exact ⟨k + 1, A3, c3, by omega, by go_num, by rw [HF.out, HL.out], by rw [HF.out, HL.out]; exact ho, hs⟩
          case measure => simp [intOf]; omega
    · go_wp2_with (fail)
      go_ret
      have : k = xss.length := by omega
      subst this
      exact ⟨_, _, rfl, ho, hb⟩

theorem impl_FloatsOf (n : Int) (xss : List (List Int)) (A : Option Addr) (c : Nat) (w : World) (h : Ints2 w A xss) (hl : xss.length ≤ 9223372036854775807) :
    Calls Try.prog 21 #[.agg #[.int .i64 n, .slice A xss.length c]] w fun e w' => ∃ A' c', e = .returned (.tuple #[.slice A' (floatsP n xss).length c', .int .i64 (colCode n xss)]) ∧ OwnFloat w' w.heap.size w'.heap.size A' c' (floatsP n xss) ∧ Below w.heap.size w w' := by
  by_cases hv : coloursB n xss = true
  · have HF : Hid (floatsP n xss = fAll xss xss.length ∧ colCode n xss = 0) := Lib.hid ⟨by rw [floatsP, if_pos hv], by rw [colCode, if_pos hv]⟩
    have HV := Lib.hid hv
    go_enter Try.func21, Try.ntmps21
    go_wp2_with (fail)
    refine (impl_ValidColours n xss A c _ (h.below (by (repeat (first | exact Below.refl _ _ | assumption | apply Below.drew | apply below_drewN | (refine Below.alloc ?_ (by first | omega | (simp; done) | (simp; omega)) _) | (refine Below.setCell ?_ (by first | omega | (simp; done) | (simp; omega)) _))))) hl).mono ?_; rintro e w2 ⟨rfl, b2'⟩
    have b2 : Below w.heap.size w w2 := Below.trans (by (repeat (first | exact Below.refl _ _ | assumption | apply Below.drew | apply below_drewN | (refine Below.alloc ?_ (by first | omega | (simp; done) | (simp; omega)) _) | (refine Below.setCell ?_ (by first | omega | (simp; done) | (simp; omega)) _)))) (b2'.mono (by first | omega | (simp; done) | (simp; omega)))
    have k2 : Blk w2 w.heap.size 43 #[.int .i64 n, .slice A xss.length c] := (Blk.new _ _ _).below b2' (by first | omega | (simp; done) | (simp; omega))
    have z2 := b2'.size
    simp only [World.size_alloc] at z2
    clear b2'
    obtain ⟨s0, s1⟩ := k2.c2
    go_wp2_with (fail)
    refine (impl_floats n A c xss _ (h.below b2) HV.out).mono ?_; rintro e w3 ⟨A3, c3, rfl, o3, b3⟩
    go_wp2_with (fail)
    go_ret2
    rw [HF.out.1, HF.out.2]
    exact ⟨_, _, rfl, o3.mono (by omega) (Nat.le_refl _), b2.trans (b3.mono (by omega))⟩
  · have hv' : coloursB n xss = false := by simpa using hv
    have HF : Hid (floatsP n xss = [] ∧ colCode n xss = 1) := Lib.hid ⟨by rw [floatsP, if_neg hv], by rw [colCode, if_neg hv]⟩
    clear hv
    go_enter Try.func21, Try.ntmps21
    go_wp2_with (fail)
    refine (impl_ValidColours n xss A c _ (h.below (by (repeat (first | exact Below.refl _ _ | assumption | apply Below.drew | apply below_drewN | (refine Below.alloc ?_ (by first | omega | (simp; done) | (simp; omega)) _) | (refine Below.setCell ?_ (by first | omega | (simp; done) | (simp; omega)) _))))) hl).mono ?_; rintro e w2 ⟨rfl, b2'⟩
    have b2 : Below w.heap.size w w2 := Below.trans (by (repeat (first | exact Below.refl _ _ | assumption | apply Below.drew | apply below_drewN | (refine Below.alloc ?_ (by first | omega | (simp; done) | (simp; omega)) _) | (refine Below.setCell ?_ (by first | omega | (simp; done) | (simp; omega)) _)))) (b2'.mono (by first | omega | (simp; done) | (simp; omega)))
    go_wp2_with (fail)
    go_ret2
    rw [HF.out.1, HF.out.2]
    exact ⟨_, _, rfl, OwnC.nil _ _ _ _ _, b2⟩

end Go.Proofs.Ytnjgmhdmjaijgaa

/- Charts of colour charts: the program's side. -/
namespace Go.Proofs.Ytnjgmhdmjaijgaa
open Go Go.RowKit

/-- What the program keeps for each carrier: the direction of its next row. -/
def nextC (ds : List Int) : List Value := (0 :: ds.map (fun d => -d)).map (Value.int .i64)
theorem nextC_at {ds : List Int} {m : Nat} {x : Int} (h : ds[m]? = some x) : (nextC ds)[m + 1]? = some (.int .i64 (-x)) := by simp [nextC, h]
theorem nextC_set (ds : List Int) (m : Nat) (d : Int) : (nextC ds).set (m + 1) (.int .i64 (-d)) = nextC (ds.set m d) := by simp [nextC, List.map_set]

/-- What the loop over rows and carriers keeps, taken apart: the result's box, the directions, the floats, the chart's box and its rows. -/
structure CParts (n : Int) (hZ hB hN gF lo hW : Nat) (A3 : Option Addr) (c3 : Nat) (fs : List FloatD) (wr : World) (nl : List Value) (L : Nat) (A' : Option Addr) (c' : Nat) (cs : List Value) (rows : List RowD) : Prop where
  kz : Blk wr hZ 57 #[.int .i64 0, .slice none 0 0]
  kn : Blk wr hN 106 nl.toArray
  of : OwnFloat wr gF lo A3 c3 fs
  kb : Blk wr hB 57 #[.int .i64 n, .slice A' L c']
  ho : OwnC wr lo hW 29 3 A' L c' cs
  hcr : CellsRows wr lo hW cs rows
  hle : hW ≤ wr.heap.size
  ord : hZ < hB ∧ hB < hN ∧ hN < gF ∧ gF ≤ lo ∧ lo ≤ hW
section
variable {n : Int} {hZ hB hN gF lo hW : Nat} {A3 : Option Addr} {c3 : Nat} {fs : List FloatD} {wr w' : World} {nl : List Value} {L : Nat} {A' : Option Addr} {c' : Nat} {cs : List Value} {rows : List RowD}
theorem CParts.touch (h : CParts n hZ hB hN gF lo hW A3 c3 fs wr nl L A' c' cs rows) (j : Nat) (u : Value) : CParts n hZ hB hN gF lo hW A3 c3 fs (wr.setCell ⟨hN, j, none⟩ u) (nl.set j u) L A' c' cs rows := by
  obtain ⟨o1, o2, o3, o4, o5⟩ := h.ord
  refine ⟨h.kz.far (by show hZ ≠ hN; omega) _, ?_, h.of.far (.inl (by show hN < gF; omega)) _, h.kb.far (by show hB ≠ hN; omega) _, h.ho.far (.inl (by show hN < lo; omega)) _, h.hcr.keep (fun q h1 _ _ => Below.heap_setCell wr _ _ q (by show q ≠ hN; omega)), by simpa using h.hle, h.ord⟩
  have := h.kn.setAt j u
  rwa [List.setIfInBounds_toArray] at this
theorem CParts.below (h : CParts n hZ hB hN gF lo hW A3 c3 fs wr nl L A' c' cs rows) {B : Nat} (hb : Below B wr w') (hB' : hW ≤ B) : CParts n hZ hB hN gF lo hW A3 c3 fs w' nl L A' c' cs rows := by
  obtain ⟨o1, o2, o3, o4, o5⟩ := h.ord
  exact ⟨h.kz.below hb (by omega), h.kn.below hb (by omega), h.of.below hb (by omega), h.kb.below hb (by omega), h.ho.below hb hB', h.hcr.keep (fun q _ h2 _ => hb.block q (by omega)), Nat.le_trans h.hle hb.size, h.ord⟩
end
/-- What the loop over rows and carriers keeps. -/
structure CInv (n : Int) (hZ hB hN gF lo : Nat) (A3 : Option Addr) (c3 : Nat) (fs : List FloatD) (wr : World) (st : ColSt) : Prop where
  kz : Blk wr hZ 57 #[.int .i64 0, .slice none 0 0]
  kn : Blk wr hN 106 (nextC st.ds).toArray
  of : OwnFloat wr gF lo A3 c3 fs
  gi : GrowInv n hB lo wr st.rows.length st.rows

set_option maxHeartbeats 8000000 in
set_option maxRecDepth 10000 in
theorem impl_coloured (n : Int) (xss : List (List Int)) (A : Option Addr) (c : Nat) (w : World) (h : Ints2 w A xss) (hv : coloursB n xss = true) :
    Calls Try.prog 42 #[.agg #[.int .i64 n, .slice A xss.length c], .int .i64 0] w fun e w' => ∃ A' c', e = .returned (.agg #[.int .i64 n, .slice A' (cofRows xss).length c']) ∧ OwnRows w' w.heap.size w'.heap.size A' (cofRows xss).length c' (cofRows xss) ∧ Below w.heap.size w w' := by
  have t1 : (57 : TypeId) ≠ 2 := by decide
  have t2 : (57 : TypeId) ≠ 29 := by decide
  have t4 : (106 : TypeId) ≠ 29 := by decide
  have t5 : (29 : TypeId) ≠ 2 := by decide
  have t6 : (106 : TypeId) ≠ 2 := by decide
  have t7 : (2 : TypeId) ≠ 29 := by decide
  obtain ⟨i0, hi0, hz0, hz1, hz2⟩ := info_parts info_int64
  obtain ⟨iR, hi1, hy0, hy1, hy2⟩ := info_parts info_Row
  obtain ⟨hn1, hn8, hx8, hrow⟩ := colours_small hv
  have HROW := Lib.hid hrow; clear hrow
  have HL32 := Lib.hid (cofRows_small hv)
  have HV := Lib.hid hv; clear hv
  obtain ⟨w1, hw1⟩ : ∃ w1, w1 = (((w.alloc (.cells #[.int .i64 n, .slice A xss.length c] 43)).alloc (.cells #[.int .i64 0, .slice none 0 0] 57)).alloc (.cells #[.int .i64 n, .slice none 0 0] 57)).alloc (.cells #[.int .i64 0, .int .i64 0, .int .i64 0, .int .i64 0, .int .i64 0] 106) := ⟨_, rfl⟩
  have hb1 : Below w.heap.size w w1 := by rw [hw1]; (repeat (first | exact Below.refl _ _ | assumption | apply Below.drew | apply below_drewN | (refine Below.alloc ?_ (by first | omega | (simp; done) | (simp; omega)) _) | (refine Below.setCell ?_ (by first | omega | (simp; done) | (simp; omega)) _)))
  have ka1 : Blk w1 w.heap.size 43 #[.int .i64 n, .slice A xss.length c] := by rw [hw1]; exact (((Blk.new w _ _).alloc _).alloc _).alloc _
  obtain ⟨hZ, hhZ⟩ : ∃ hZ, hZ = w.heap.size + 1 := ⟨_, rfl⟩
  obtain ⟨hB, hhB⟩ : ∃ hB, hB = w.heap.size + 1 + 1 := ⟨_, rfl⟩
  obtain ⟨hN, hhN⟩ : ∃ hN, hN = w.heap.size + 1 + 1 + 1 := ⟨_, rfl⟩
  have kz1 : Blk w1 hZ 57 #[.int .i64 0, .slice none 0 0] := by
    rw [hw1, hhZ]
    exact ((by simpa using Blk.new (w.alloc (.cells #[.int .i64 n, .slice A xss.length c] 43)) 57 #[.int .i64 0, .slice none 0 0] : Blk _ (w.heap.size + 1) _ _).alloc _).alloc _
  have kx1 : Blk w1 hB 57 #[.int .i64 n, .slice none 0 0] := by
    rw [hw1, hhB]
    exact (by simpa using Blk.new ((w.alloc (.cells #[.int .i64 n, .slice A xss.length c] 43)).alloc (.cells #[.int .i64 0, .slice none 0 0] 57)) 57 #[.int .i64 n, .slice none 0 0] : Blk _ (w.heap.size + 1 + 1) _ _).alloc _
  have kn1 : Blk w1 hN 106 (nextC [0, 0, 0, 0]).toArray := by
    rw [hw1, hhN]
    simpa [nextC] using Blk.new (((w.alloc (.cells #[.int .i64 n, .slice A xss.length c] 43)).alloc (.cells #[.int .i64 0, .slice none 0 0] 57)).alloc (.cells #[.int .i64 n, .slice none 0 0] 57)) 106 #[.int .i64 0, .int .i64 0, .int .i64 0, .int .i64 0, .int .i64 0]
  have hz4 : w.heap.size < hZ ∧ hZ < hB ∧ hB < hN := by omega
  obtain ⟨hzZ, hzB, hzN⟩ := hz4
  have hzn1 := kn1.lt
  obtain ⟨a0, a1⟩ := ka1.c2
  go_enter Try.func42, Try.ntmps42
  go_upto_region 3 with fail
  rw [← hw1, ← hhN, ← hhB, ← hhZ]
  clear hw1 hhZ hhB hhN
  go_wp2_with (fail)
  refine (impl_floats n A c xss _ (h.below hb1) HV.out).mono ?_; rintro e w3 ⟨A3, c3, rfl, o3, b3⟩
  have hz3 := b3.size
  have kz3 := kz1.below b3 (by omega)
  have kx3 := kx1.below b3 (by omega)
  have kn3 := kn1.below b3 hzn1
  have ka3 := ka1.below b3 (by omega)
  have hbw3 : Below w.heap.size w w3 := hb1.trans (b3.mono (by omega))
  obtain ⟨a0', a1'⟩ := ka3.c2
  obtain ⟨gF, hgF⟩ : ∃ gF, gF = w1.heap.size := ⟨_, rfl⟩
  have HFN : Hid ((fAll xss xss.length).length ≤ 1000000) := Lib.hid (by have := fAll_small HV.out (Nat.le_refl xss.length); omega)
  rw [← hgF] at o3 hzn1 hz3
  generalize fAll xss xss.length = fs at o3 HFN ⊢
  obtain ⟨lo, hlo0⟩ : ∃ lo, lo = w3.heap.size := ⟨_, rfl⟩
  have HLO : lo ≤ w3.heap.size := by omega
  rw [← hlo0] at o3 hz3
  clear hlo0 hgF ka1 ka3 kz1 kx1 kn1 hb1 b3 a0 a1
  have LS : CInv n hZ hB hN gF lo A3 c3 fs w3 (colAll (xss.take 0)) := ⟨kz3, kn3, o3, rfl, by omega, HLO, none, 0, [], kx3, OwnC.nil _ _ _ _ _, CellsRows.nil⟩
  clear kz3 kn3 kx3 o3

  go_wp2_with (fail)
  clear a0' a1'
  go_loopw [26] (fun iv wr => ∃ i : Nat, i ≤ xss.length ∧ iv = .int .i64 i ∧ CInv n hZ hB hN gF lo A3 c3 fs wr (colAll (xss.take i)) ∧ Below w.heap.size w wr) (fun iv _ => xss.length - (intOf iv).toNat)
  case atStart => exact ⟨0, Nat.zero_le _, rfl, LS, hbw3⟩
  case round =>
    clear LS hbw3
    obtain ⟨i, hi, rfl, hinv, hb⟩ := hrel
    by_cases hil : i < xss.length
    · obtain ⟨b, off, A7, c7, row, rfl, hx, hc, hir, hrl⟩ := h i hil
      have hr8 : row.length ≤ 8 := by have := HROW.out row (List.mem_of_getElem? hx); omega
      have HX := Lib.hid (colAll_snoc hx); clear hx
      have HOK := Lib.hid (ColOk.all xss i hi)
      generalize colAll (xss.take i) = st0 at hinv HX HOK
      have q2 := cells_below hb _ _ hc
      have j1 : (0 : Int) ≤ (i : Int) := by omega
      have j2 : (i : Int) < (xss.length : Int) := by omega
      go_wp2_with (fail)
      go_loopw [10] (fun kv ws => ∃ m : Nat, m ≤ 4 ∧ kv = .int .i64 ((m : Int) + 1) ∧ CInv n hZ hB hN gF lo A3 c3 fs ws (colTo row st0 m) ∧ Below w.heap.size w ws) (fun kv _ => 5 - (intOf kv).toNat)
      case atStart => exact ⟨0, Nat.zero_le _, rfl, hinv, hb⟩
      case round =>
        clear hinv hb q2
        obtain ⟨m, hm4, rfl, hinv, hb⟩ := hrel
        by_cases hml : m < 4
        · have d4 : decide ((m : Int) + 1 ≤ 4) = true := decide_eq_true (by omega)
          have hokm := (HOK.out.to hm4 : ColOk (colTo row st0 m) (4 * i + m))
          obtain ⟨x, hxm, hx3⟩ := hokm.at hml
          have hsz := hokm.size
          have HOK4 := hokm.len
          have HS := Lib.hid (colTo_succ row st0 m)
          clear hokm
          generalize colTo row st0 m = st at hinv hxm hsz HS HOK4
          have hirs : Ints wr A7 row := hir.below hb
          cases hmem : decide (((m : Int) + 1) ∈ row)
          · have HS2 : Hid (colTo row st0 (m + 1) = st) := Lib.hid (by rw [HS.out, colStep_no (of_decide_eq_false hmem)])
            go_wp2_with (go_at_call 76; refine (slices_Contains A7 c7 row _ _ hirs (by omega)).mono ?_; rintro e _ ⟨rfl, rfl⟩; rw [hmem])
            refine ⟨⟨m + 1, by omega, by go_num, by rw [HS2.out]; exact hinv, hb⟩, by first | (simp [intOf]; done) | (simp [intOf]; omega)⟩
          · obtain ⟨kz, kn, ofl, hdl, hlt, hlo, A', c', cs, kb, ho, hcr⟩ := hinv
            have P : CParts n hZ hB hN gF lo wr.heap.size A3 c3 fs wr (nextC st.ds) st.rows.length A' c' cs st.rows := ⟨kz, kn, ofl, kb, ho, hcr, Nat.le_refl _, by omega⟩
            have qn : wr.cell? ⟨hN, m + 1, none⟩ = some (.int .i64 (-x)) := by rw [kn.cell, List.getElem?_toArray, nextC_at hxm]
            have qf := kn.frozen (m + 1)
            have hnl : m + 1 < (nextC st.ds).length := (List.getElem?_eq_some_iff.1 (nextC_at hxm)).1
            clear kz kn ofl ho hcr
            have i2 : IntKind.i64.wrap ((m : Int) + 1) = (m : Int) + 1 := IntWalk.i64_in _ ⟨by omega, by omega⟩
            have i3 : (0 : Int) ≤ (m : Int) + 1 := by omega
            have i4 : (m : Int) + 1 < 5 := by omega
            have i5 : ((m : Int) + 1).toNat = m + 1 := by omega
            have s0 := kb.c2
            clear kb
            have HMB := Lib.hid (of_decide_eq_true hmem)
            obtain ⟨d, hd⟩ : ∃ d, d = dirOf x st.rows.length := ⟨_, rfl⟩
            have HDD : d = 1 ∨ d = -1 := by rw [hd]; exact dirOf_val _ hx3
            have HS2 : Hid (colTo row st0 (m + 1) = ⟨st.ds.set m d, st.rows ++ [⟨d, (m : Int) + 1, knitRow row ((m : Int) + 1)⟩]⟩) := Lib.hid (by rw [HS.out, colStep_yes HMB.out hxm, hd])
            have HD := Lib.hid hd; clear hd HS
            obtain ⟨s1, s2⟩ := s0
            go_upto_if 42 with (go_at_call 76; refine (slices_Contains A7 c7 row _ _ hirs (by omega)).mono ?_; rintro e _ ⟨rfl, rfl⟩; rw [hmem])
            go_cut [] (fun wx => ∃ nl, CParts n hZ hB hN gF lo wr.heap.size A3 c3 fs wx nl st.rows.length A' c' cs st.rows ∧ nl[m + 1]? = some (.int .i64 d) ∧ nl.set (m + 1) (.int .i64 (-d)) = nextC (st.ds.set m d) ∧ Below w.heap.size w wx)
            case first =>
              by_cases hx0 : x = 0
              · have hxb : (-x == 0) = true := by simp [hx0]
                by_cases hL0 : st.rows.length = 0
                · have hLb : ((st.rows.length : Int) == 0) = true := by simp [hL0]
                  have HDV : Hid (d = -1) := Lib.hid (by rw [HD.out]; simp [dirOf, hx0, hL0])
                  have PF := (P.touch (m + 1) (.int .i64 1)).touch (m + 1) (.int .i64 (-1))
                  have HPF := Lib.hid PF; clear PF P
                  go_wp2_with (fail)
                  go_meet
                  rw [HDV.out]
                  refine ⟨_, HPF.out, by rw [List.getElem?_set_self (by simpa using hnl)], ?_, (hb.setCell (by show w.heap.size ≤ hN; omega) _).setCell (by show w.heap.size ≤ hN; omega) _⟩
                  simp only [List.set_set]
                  exact nextC_set _ _ _
                · have hLb : ((st.rows.length : Int) == 0) = false := by simp [hL0]
                  have HDV : Hid (d = 1) := Lib.hid (by rw [HD.out]; simp [dirOf, hx0, hL0])
                  have HPF := Lib.hid (P.touch (m + 1) (.int .i64 1)); clear P
                  go_wp2_with (fail)
                  go_meet
                  rw [HDV.out]
                  refine ⟨_, HPF.out, by rw [List.getElem?_set_self hnl], ?_, hb.setCell (by show w.heap.size ≤ hN; omega) _⟩
                  simp only [List.set_set]
                  exact nextC_set _ _ _
              · have hxb : (-x == 0) = false := by simp [hx0]
                have HDV : Hid (d = -x) := Lib.hid (by rw [HD.out]; simp [dirOf, hx0])
                have HPF := Lib.hid P; clear P
                go_wp2_with (fail)
                go_meet
                rw [HDV.out]
                exact ⟨_, HPF.out, nextC_at hxm, nextC_set _ _ _, hb⟩
            case rest =>
            obtain ⟨nl, PS, hnd, hNL, hbS⟩ := hcut
            have HNL := Lib.hid hNL; clear hNL P qf hirs hb s1 s2 qn hnl
            have hqS : wc.cell? ⟨hN, m + 1, none⟩ = some (.int .i64 d) := by rw [PS.kn.cell, List.getElem?_toArray, hnd]
            obtain ⟨hW, hhW⟩ : ∃ hW, hW = wr.heap.size := ⟨_, rfl⟩
            rw [← hhW] at PS hlo
            clear hhW
            have hWS := PS.hle
            have hqf := PS.kn.frozen (m + 1)
            have i6 : IntKind.i64.wrap (-d) = -d := IntWalk.i64_in _ ⟨by omega, by omega⟩
            have hqA := cell_alloc hqS (.cells #[.int .i64 d, .int .i64 ((m : Int) + 1), .slice none 0 0] 29)
            have hfA := (PS.below ((Below.refl _ _).alloc (Nat.le_refl _) (.cells #[.int .i64 d, .int .i64 ((m : Int) + 1), .slice none 0 0] 29)) hWS).kn.frozen (m + 1)
            go_upto_region 17 with fail
            obtain ⟨wX, hwX⟩ : ∃ wX, wX = (wc.alloc (.cells #[.int .i64 d, .int .i64 ((m : Int) + 1), .slice none 0 0] 29)).setCell ⟨hN, m + 1, none⟩ (.int .i64 (-d)) := ⟨_, rfl⟩
            obtain ⟨hR, hhR⟩ : ∃ hR, hR = wc.heap.size := ⟨_, rfl⟩
            obtain ⟨o1, o2, o3', o4, o5⟩ := PS.ord
            have PX : CParts n hZ hB hN gF lo hW A3 c3 fs wX (nextC (st.ds.set m d)) st.rows.length A' c' cs st.rows := by rw [hwX, ← HNL.out]; exact (PS.below ((Below.refl _ _).alloc (Nat.le_refl _) _) hWS).touch _ _
            have krX : Blk wX hR 29 #[.int .i64 d, .int .i64 ((m : Int) + 1), .slice none 0 0] := by rw [hwX, hhR]; exact (Blk.new wc _ _).far (by show wc.heap.size ≠ hN; omega) _
            have hbX : Below w.heap.size w wX := by rw [hwX]; exact (hbS.alloc (by omega) _).setCell (by show w.heap.size ≤ hN; omega) _
            have hRW : hW ≤ hR := by omega
            rw [← hwX, ← hhR]
            clear hwX hhR PS hqS hqf hbS HNL i6 hqA hfA
            have hzX := krX.lt
            generalize hLL : st.rows.length = L at *
            have HLL := Lib.hid hLL; clear hLL
            go_wp2_with (fail)
            go_loopw [64] (fun jv wq => ∃ (j : Nat) (A5 : Option Addr) (c5 : Nat), j ≤ row.length ∧ jv = .int .i64 j ∧ Blk wq hR 29 #[.int .i64 d, .int .i64 ((m : Int) + 1), .slice A5 j c5] ∧ OwnC wq (hR + 1) wq.heap.size 2 1 A5 j c5 ((knitRow (row.take j) ((m : Int) + 1)).map (Value.int .i64)) ∧ Below hR wX wq) (fun jv _ => row.length - (intOf jv).toNat)
            case atStart => exact ⟨0, none, 0, Nat.zero_le _, rfl, krX, OwnC.nil _ _ _ _ _, Below.refl _ _⟩
            case round =>
              clear krX
              obtain ⟨j, A5, c5, hj, rfl, kr, ho, hq⟩ := hrel
              have hzq := kr.lt
              by_cases hjl : j < row.length
              · obtain ⟨b2, off2, y, rfl, hcy, hy⟩ := (hir.below (hbX.trans (hq.mono (by omega)))) j hjl
                have j3 : (0 : Int) ≤ (j : Int) := by omega
                have j4 : (j : Int) < (row.length : Int) := by omega
                obtain ⟨z0, z1, z2⟩ := kr.c3
                by_cases hyk : y = (m : Int) + 1
                · have HK : Hid (knitRow (row.take (j + 1)) ((m : Int) + 1) = knitRow (row.take j) ((m : Int) + 1) ++ [1]) := Lib.hid (by rw [knitRow_snoc hy, if_pos hyk])
                  have hyk' : (y == (m : Int) + 1) = true := by simp [hyk]
                  clear hy hyk
                  go_wp2_with (at_builtin; refine wpList_append1 wr [.int .i64 1] _ rfl (.tmp 72) (.tmp 73) _ rfl 2 i0 _ 1 8 Try.underlying22 hi0 hz0 hz1 hz2 rfl (by decide) rfl ho (by omega) 1 rfl rfl (by simp [Value.oneCell']) (by omega) (by decide) ?_; intro A6 c6 w6 ho6 hg6 hb6 hz6; have kr6 := (kr.alloc (.cells #[.int .i64 1] 2)).grownT (ho.alloc (.cells #[.int .i64 1] 2)) t5 hg6; obtain ⟨y0', y1', y2'⟩ := kr6.c3; have y3' := kr6.frozen 2)
                  have kr6 := (kr.alloc (.cells #[.int .i64 1] 2)).grownT (ho.alloc (.cells #[.int .i64 1] 2)) t5 hg6
                  refine ⟨⟨j + 1, A6, c6, by omega, by go_num, by simpa using kr6.setAt 2 (.slice A6 (j + 1) c6), ?_, Below.setCell (hq.trans (hb6.mono (by omega))) (Nat.le_refl _) _⟩, by first | (simp [intOf]; done) | (simp [intOf]; omega)⟩
                  rw [HK.out, List.map_append]
                  exact (ho6.farT kr6 t5 2 _).mono (Nat.le_refl _) (by simp)
                · have HK : Hid (knitRow (row.take (j + 1)) ((m : Int) + 1) = knitRow (row.take j) ((m : Int) + 1) ++ [7]) := Lib.hid (by rw [knitRow_snoc hy, if_neg hyk])
                  have hyk' : (y == (m : Int) + 1) = false := by simp [hyk]
                  clear hy hyk
                  go_wp2_with (at_builtin; refine wpList_append1 wr [.int .i64 7] _ rfl (.tmp 77) (.tmp 78) _ rfl 2 i0 _ 1 8 Try.underlying22 hi0 hz0 hz1 hz2 rfl (by decide) rfl ho (by omega) 1 rfl rfl (by simp [Value.oneCell']) (by omega) (by decide) ?_; intro A6 c6 w6 ho6 hg6 hb6 hz6; have kr6 := (kr.alloc (.cells #[.int .i64 7] 2)).grownT (ho.alloc (.cells #[.int .i64 7] 2)) t5 hg6; obtain ⟨y0', y1', y2'⟩ := kr6.c3; have y3' := kr6.frozen 2)
                  have kr6 := (kr.alloc (.cells #[.int .i64 7] 2)).grownT (ho.alloc (.cells #[.int .i64 7] 2)) t5 hg6
                  refine ⟨⟨j + 1, A6, c6, by omega, by go_num, by simpa using kr6.setAt 2 (.slice A6 (j + 1) c6), ?_, Below.setCell (hq.trans (hb6.mono (by omega))) (Nat.le_refl _) _⟩, by first | (simp [intOf]; done) | (simp [intOf]; omega)⟩
                  rw [HK.out, List.map_append]
                  exact (ho6.farT kr6 t5 2 _).mono (Nat.le_refl _) (by simp)
              · obtain rfl : j = row.length := by omega
                rw [take_all (Nat.le_refl _)] at ho
                have PQ := PX.below hq hRW
                have hbq : Below w.heap.size w wr := hbX.trans (hq.mono (by omega))
                have HFS := Lib.hid PQ.of.floats
                have hfn := HFN.out
                clear PX hq hbX
                go_wp2_with (fail)
                go_loopw [84] (fun jv wt => ∃ j : Nat, j ≤ fs.length ∧ jv = .int .i64 j ∧ Below wr.heap.size wr wt) (fun jv _ => fs.length - (intOf jv).toNat)
                case atStart => exact ⟨0, Nat.zero_le _, rfl, Below.refl _ _⟩
                case round =>
                  obtain ⟨j, hj, rfl, hbt⟩ := hrel
                  have hzt := hbt.size
                  by_cases hjl : j < fs.length
                  · obtain ⟨b2, off2, p, rfl, hp, e0, e1, e2, e3⟩ := (HFS.out.below hbt) j hjl
                    have j3 : (0 : Int) ≤ (j : Int) := by omega
                    have j4 : (j : Int) < (fs.length : Int) := by omega
                    clear hp
                    go_wp2_with (fail)
                    refine ⟨⟨j + 1, by omega, by go_num, hbt.alloc (by omega) _⟩, by first | (simp [intOf]; done) | (simp [intOf]; omega)⟩
                  · have PT := PQ.below hbt (by omega)
                    have krT := kr.below hbt (by omega)
                    have hoT := (ho.below hbt (Nat.le_refl _)).mono (Nat.le_refl _) hzt
                    have hbT : Below w.heap.size w wr := hbq.trans (hbt.mono (by omega))
                    clear PQ kr ho hbt hbq HFS
                    obtain ⟨z0, z1, z2⟩ := krT.c3
                    obtain ⟨s1, s2⟩ := PT.kb.c2
                    have hzT := krT.lt
                    have HKL := Lib.hid (knitRow_length row ((m : Int) + 1))
                    have o4 : OwnI wr hW wr.heap.size A5 c5 (knitRow row ((m : Int) + 1)) := by show OwnC _ _ _ _ _ _ _ _ _; rw [HKL.out]; exact hoT.mono (by omega) (Nat.le_refl _)
                    have HKX : Hid (∀ w8, (wr.alloc (.cells #[.int .i64 d, .int .i64 ((m : Int) + 1), .slice A5 row.length c5] 29)).grownBy w8 (Value.slice A' L c').ownBlock → Blk w8 hB 57 #[.int .i64 n, .slice A' L c']) := Lib.hid (fun w8 hg => (PT.kb.alloc _).grownT (PT.ho.alloc (.cells #[.int .i64 d, .int .i64 ((m : Int) + 1), .slice A5 row.length c5] 29)) t2 hg)
                    have hoP := PT.ho
                    go_wp2_with (at_builtin; refine wpList_append1 wr [.int .i64 d, .int .i64 ((m : Int) + 1), .slice A5 row.length c5] _ rfl (.tmp 121) (.tmp 123) _ rfl 29 iR _ 3 40 Try.underlying55 hi1 hy0 hy1 hy2 rfl (by decide) rfl hoP (by omega) 1 rfl rfl (by simp [Value.oneCell']) (by omega) (by decide) ?_; intro A9 c9 w8 ho8 hg8 hb8 hz8; have kb8 := HKX.out w8 hg8; obtain ⟨x0', x1'⟩ := kb8.c2; have x2' := kb8.frozen 1)
                    have kb8 := HKX.out w8 hg8
                    have kz8 := (PT.kz.alloc (.cells #[.int .i64 d, .int .i64 ((m : Int) + 1), .slice A5 row.length c5] 29)).grownT (hoP.alloc (.cells #[.int .i64 d, .int .i64 ((m : Int) + 1), .slice A5 row.length c5] 29)) t2 hg8
                    have kn8 := (PT.kn.alloc (.cells #[.int .i64 d, .int .i64 ((m : Int) + 1), .slice A5 row.length c5] 29)).grownT (hoP.alloc (.cells #[.int .i64 d, .int .i64 ((m : Int) + 1), .slice A5 row.length c5] 29)) t4 hg8
                    have of8 := PT.of.below hb8 (Nat.le_refl _)
                    have hb8' : Below w.heap.size w w8 := hbT.trans (hb8.mono (by omega))
                    rw [← HKL.out] at hg8 ho8
                    have gi' := GrowInv.step ⟨d, (m : Int) + 1, knitRow row ((m : Int) + 1)⟩ HLL.out hlt hlo PT.hle PT.kb hoP PT.hcr o4 ho8 hg8 hz8
                    refine ⟨⟨m + 1, by omega, by go_num, ?_, hb8'.setCell (by show w.heap.size ≤ hB; omega) _⟩, by first | (simp [intOf]; done) | (simp [intOf]; omega)⟩
                    rw [HS2.out]
                    refine ⟨kz8.far (by show hZ ≠ hB; omega) _, kn8.far (by show hN ≠ hB; omega) _, of8.far (.inl (by show hB < gF; omega)) _, ?_⟩
                    show GrowInv n hB lo _ (st.rows ++ [_]).length (st.rows ++ [_])
                    rw [List.length_append, HLL.out]
                    exact gi'
        · obtain rfl : m = 4 := by omega
          have d4 : decide (((4 : Nat) : Int) + 1 ≤ 4) = false := by decide
          go_wp2_with (fail)
          refine ⟨⟨i + 1, by omega, by go_num, by rw [HX.out]; exact hinv, hb⟩, by first | (simp [intOf]; done) | (simp [intOf]; omega)⟩
    · obtain rfl : i = xss.length := by omega
      rw [take_all (Nat.le_refl _)] at hinv
      obtain ⟨kz, _, _, gi⟩ := hinv
      obtain ⟨A8, c8, kc, oo⟩ := gi.rows
      have hlo := gi.2.2.1
      have hlt := gi.2.1
      clear gi
      have HCR : Hid (cofRows xss = (colAll xss).rows) := Lib.hid rfl
      rw [← HCR.out] at kc oo
      obtain ⟨rs, hrs⟩ : ∃ rs, rs = cofRows xss := ⟨_, rfl⟩
      rw [← hrs] at kc oo
      have HRS := Lib.hid hrs; clear hrs HCR HL32
      obtain ⟨p0, p1⟩ := kc.c2
      have hzr := kc.lt
      obtain ⟨r0, r1⟩ := kz.c2
      have g0 := kz.frozen 0
      have g1 := kz.frozen 1
      go_wp2_with (fail)
      refine bodyPost_ret (v := .agg #[.int .i64 n, .slice A8 (cofRows xss).length c8]) (by rw [← HRS.out]; simp [results, Try.results42, go_sem, r0, r1]) rfl ⟨A8, c8, rfl, ?_, ?_⟩
      · rw [← HRS.out]
        have k1 := kz.set20 (.int .i64 n)
        exact ((oo.farT kz t1 t2 0 _).farT k1 t1 t2 1 _).mono (by omega) (by simp)
      · (repeat (first | exact Below.refl _ _ | assumption | apply Below.drew | apply below_drewN | (refine Below.alloc ?_ (by first | omega | (simp; done) | (simp; omega)) _) | (refine Below.setCell ?_ (by first | omega | (simp; done) | (simp; omega)) _)))

set_option maxHeartbeats 2000000 in
theorem impl_ChartOfColours (n : Int) (xss : List (List Int)) (A : Option Addr) (c : Nat) (w : World) (h : Ints2 w A xss) (hl : xss.length ≤ 9223372036854775807) :
    Calls Try.prog 24 #[.agg #[.int .i64 n, .slice A xss.length c]] w fun e w' => ∃ A' c', e = .returned (.tuple #[.agg #[.int .i64 (cofX n xss).n, .slice A' (cofX n xss).xs.length c'], .int .i64 (cofCode n xss)]) ∧ OwnRows w' w.heap.size w'.heap.size A' (cofX n xss).xs.length c' (cofX n xss).xs ∧ Below w.heap.size w w' := by
  have t1 : (57 : TypeId) ≠ 2 := by decide
  have t2 : (57 : TypeId) ≠ 29 := by decide
  have hb1 : Below w.heap.size w ((w.alloc (.cells #[.int .i64 n, .slice A xss.length c] 43)).alloc (.cells #[.int .i64 0, .slice none 0 0] 57)) := by (repeat (first | exact Below.refl _ _ | assumption | apply Below.drew | apply below_drewN | (refine Below.alloc ?_ (by first | omega | (simp; done) | (simp; omega)) _) | (refine Below.setCell ?_ (by first | omega | (simp; done) | (simp; omega)) _)))
  have ka := (Blk.new w 43 #[.int .i64 n, .slice A xss.length c]).alloc (.cells #[.int .i64 0, .slice none 0 0] 57)
  have kz : Blk ((w.alloc (.cells #[.int .i64 n, .slice A xss.length c] 43)).alloc (.cells #[.int .i64 0, .slice none 0 0] 57)) (w.heap.size + 1) 57 #[.int .i64 0, .slice none 0 0] := by simpa using Blk.new (w.alloc (.cells #[.int .i64 n, .slice A xss.length c] 43)) 57 #[.int .i64 0, .slice none 0 0]
  cases hv : coloursB n xss
  · have HF := Lib.hid (cof_bad hv)
    go_enter Try.func24, Try.ntmps24
    go_wp2_with (fail)
    refine (impl_ValidColours n xss A c _ (h.below hb1) hl).mono ?_; rintro e w2 ⟨rfl, b2⟩
    have hb2 : Below w.heap.size w w2 := hb1.trans (b2.mono (by simp only [World.size_alloc]; omega))
    have kz2 := kz.below b2 (by simp)
    obtain ⟨r0, r1⟩ := kz2.c2
    have g0 := kz2.frozen 0
    have g1 := kz2.frozen 1
    rw [hv]
    go_wp2_with (fail)
    refine bodyPost_ret (v := .tuple #[.agg #[.int .i64 (cofX n xss).n, .slice none (cofX n xss).xs.length 0], .int .i64 (cofCode n xss)]) (by rw [HF.out.1, HF.out.2]; simp [results, Try.results24, go_sem, r0, r1]) rfl ⟨none, 0, rfl, ?_, ?_⟩
    · rw [HF.out.1]; exact OwnRows.nil _ _ _
    · (repeat (first | exact Below.refl _ _ | assumption | apply Below.drew | apply below_drewN | (refine Below.alloc ?_ (by first | omega | (simp; done) | (simp; omega)) _) | (refine Below.setCell ?_ (by first | omega | (simp; done) | (simp; omega)) _)))
  · have HV := Lib.hid hv
    have HL32 := Lib.hid (cofRows_small hv)
    go_enter Try.func24, Try.ntmps24
    go_wp2_with (fail)
    refine (impl_ValidColours n xss A c _ (h.below hb1) hl).mono ?_; rintro e w2 ⟨rfl, b2⟩
    have hb2 : Below w.heap.size w w2 := hb1.trans (b2.mono (by simp only [World.size_alloc]; omega))
    have kz2 := kz.below b2 (by simp)
    have ka2 := ka.below b2 (by simp; omega)
    have hz2 := kz2.lt
    obtain ⟨a0, a1⟩ := ka2.c2
    rw [hv]
    clear hv b2
    go_wp2_with (fail)
    refine (impl_coloured n xss A c _ (h.below hb2) HV.out).mono ?_; rintro e w3 ⟨A3, c3, rfl, o3, b3⟩
    clear a0 a1
    have hb3 : Below w.heap.size w w3 := hb2.trans (b3.mono (by omega))
    have kz3 := kz2.below b3 hz2
    have hz3 := b3.size
    have hL32 := HL32.out
    obtain ⟨rs, hrs⟩ : ∃ rs, rs = cofRows xss := ⟨_, rfl⟩
    rw [← hrs] at o3 hL32 ⊢
    have HRS := Lib.hid hrs; clear hrs HL32
    cases hcb : chartB n rs
    · have HF := Lib.hid (cof_full HV.out (by rw [← HRS.out]; exact hcb))
      go_wp2_with (fail)
      refine (impl_ifChart n rs A3 c3 _ o3.rowsR (by omega)).mono ?_; rintro e w4 ⟨rfl, b4⟩
      have hb4 : Below w.heap.size w w4 := hb3.trans (b4.mono (by omega))
      have kz4 := kz3.below b4 (by omega)
      obtain ⟨r0, r1⟩ := kz4.c2
      have g0 := kz4.frozen 0
      have g1 := kz4.frozen 1
      simp only [hcb, if_false, Bool.false_eq_true]
      go_wp2_with (fail)
      refine bodyPost_ret (v := .tuple #[.agg #[.int .i64 (cofX n xss).n, .slice none (cofX n xss).xs.length 0], .int .i64 (cofCode n xss)]) (by rw [HF.out.1, HF.out.2]; simp [results, Try.results24, go_sem, r0, r1]) rfl ⟨none, 0, rfl, ?_, ?_⟩
      · rw [HF.out.1]; exact OwnRows.nil _ _ _
      · (repeat (first | exact Below.refl _ _ | assumption | apply Below.drew | apply below_drewN | (refine Below.alloc ?_ (by first | omega | (simp; done) | (simp; omega)) _) | (refine Below.setCell ?_ (by first | omega | (simp; done) | (simp; omega)) _)))
    · have HF : Hid (cofX n xss = ⟨n, rs⟩ ∧ cofCode n xss = 0) := Lib.hid (by have := cof_ok HV.out (by rw [← HRS.out]; exact hcb); rwa [← HRS.out] at this)
      go_wp2_with (fail)
      refine (impl_ifChart n rs A3 c3 _ o3.rowsR (by omega)).mono ?_; rintro e w4 ⟨rfl, b4⟩
      have hb4 : Below w.heap.size w w4 := hb3.trans (b4.mono (by omega))
      have kz4 := kz3.below b4 (by omega)
      have o4 := o3.below b4 (Nat.le_refl _)
      have hz4 := b4.size
      obtain ⟨r0, r1⟩ := kz4.c2
      have g0 := kz4.frozen 0
      have g1 := kz4.frozen 1
      simp only [hcb, if_true]
      go_wp2_with (fail)
      refine bodyPost_ret (v := .tuple #[.agg #[.int .i64 (cofX n xss).n, .slice A3 (cofX n xss).xs.length c3], .int .i64 (cofCode n xss)]) (by rw [HF.out.1, HF.out.2]; simp [results, Try.results24, go_sem, r0, r1]) rfl ⟨A3, c3, rfl, ?_, ?_⟩
      · rw [HF.out.1]
        have k1 := kz4.set20 (.int .i64 n)
        exact ((o4.farT kz4 t1 t2 0 _).farT k1 t1 t2 1 _).mono (by omega) (by simp; omega)
      · (repeat (first | exact Below.refl _ _ | assumption | apply Below.drew | apply below_drewN | (refine Below.alloc ?_ (by first | omega | (simp; done) | (simp; omega)) _) | (refine Below.setCell ?_ (by first | omega | (simp; done) | (simp; omega)) _)))

end Go.Proofs.Ytnjgmhdmjaijgaa

/- LongestFloat. -/
namespace Go.Proofs.Ytnjgmhdmjaijgaa
open Go.RowKit

theorem longOf_snoc (fs : List FloatD) (f : FloatD) : longOf (fs ++ [f]) = max64 (longOf fs) (wrap64 (wrap64 (f.stop - f.start) - 1)) := by simp [longOf]
set_option maxHeartbeats 1000000 in
theorem impl_LongestFloat (n : Int) (xss : List (List Int)) (A : Option Addr) (c : Nat) (w : World) (h : Ints2 w A xss) (hl : xss.length ≤ 9223372036854775807) :
    Calls Try.prog 22 #[.agg #[.int .i64 n, .slice A xss.length c]] w fun e w' => e = .returned (.tuple #[.int .i64 (longP n xss), .int .i64 (colCode n xss)]) ∧ Below w.heap.size w w' := by
  by_cases hv : coloursB n xss = true
  · have HF : Hid (longP n xss = longOf (fAll xss xss.length) ∧ colCode n xss = 0) := Lib.hid ⟨by rw [longP, floatsP, if_pos hv], by rw [colCode, if_pos hv]⟩
    have hsm := fAll_small hv (Nat.le_refl _)
    have HV := Lib.hid hv
    go_enter Try.func22, Try.ntmps22
    go_wp2_with (fail)
    refine (impl_ValidColours n xss A c _ (h.below (by (repeat (first | exact Below.refl _ _ | assumption | apply Below.drew | apply below_drewN | (refine Below.alloc ?_ (by first | omega | (simp; done) | (simp; omega)) _) | (refine Below.setCell ?_ (by first | omega | (simp; done) | (simp; omega)) _))))) hl).mono ?_; rintro e w2 ⟨rfl, b2'⟩
    have b2 : Below w.heap.size w w2 := Below.trans (by (repeat (first | exact Below.refl _ _ | assumption | apply Below.drew | apply below_drewN | (refine Below.alloc ?_ (by first | omega | (simp; done) | (simp; omega)) _) | (refine Below.setCell ?_ (by first | omega | (simp; done) | (simp; omega)) _)))) (b2'.mono (by first | omega | (simp; done) | (simp; omega)))
    have k2 : Blk w2 w.heap.size 43 #[.int .i64 n, .slice A xss.length c] := (Blk.new _ _ _).below b2' (by first | omega | (simp; done) | (simp; omega))
    have z2 := b2'.size
    simp only [World.size_alloc] at z2
    clear b2'
    obtain ⟨s0, s1⟩ := k2.c2
    go_wp2_with (fail)
    refine (impl_floats n A c xss _ (h.below b2) HV.out).mono ?_; rintro e w3 ⟨A3, c3, rfl, o3, b3⟩
    have hF := o3.floats
    have b4 : Below w.heap.size w w3 := b2.trans (b3.mono (by omega))
    clear o3 b3 b2 s0 s1
    generalize fAll xss xss.length = fs at hF HF hsm
    go_wp2_with (fail)
    go_loopw [4, 13] (fun ov iv wr => ∃ (k : Nat), k ≤ fs.length ∧ iv = .int .i64 k ∧ ov = .int .i64 (longOf (fs.take k)) ∧ Below w3.heap.size w3 wr) (fun _ iv _ => fs.length - (intOf iv).toNat)
    case atStart => exact ⟨0, Nat.zero_le _, rfl, rfl, Below.refl _ _⟩
    case round =>
      obtain ⟨k, hk, rfl, rfl, hb⟩ := hrel
      have hz4 := b4.size
      have hzb := hb.size
      by_cases hlt : k < fs.length
      · obtain ⟨b, off, p, rfl, hp, p0, p1, p2, p3⟩ := (hF.below hb) k hlt
        have HP := Lib.hid hp; clear hp
        go_wp2_with (fail)
        go_roundw
        case rel => exact ⟨k + 1, by omega, by go_num, by rw [take_snoc HP.out, longOf_snoc]; refine int_eq ?_; unfold max64; split <;> split <;> omega, by (repeat (first | exact Below.refl _ _ | assumption | apply Below.drew | apply below_drewN | (refine Below.alloc ?_ (by first | omega | (simp; done) | (simp; omega)) _) | (refine Below.setCell ?_ (by first | omega | (simp; done) | (simp; omega)) _)))⟩
        case measure => simp [intOf]; omega
      · go_wp2_with (fail)
        go_ret2
        rw [HF.out.1, HF.out.2, take_all (by omega)]
        exact ⟨rfl, b4.trans (hb.mono hz4)⟩
  · have hv' : coloursB n xss = false := by simpa using hv
    have HF : Hid (longP n xss = 0 ∧ colCode n xss = 1) := Lib.hid ⟨by rw [longP, floatsP, if_neg hv]; rfl, by rw [colCode, if_neg hv]⟩
    clear hv
    go_enter Try.func22, Try.ntmps22
    go_wp2_with (fail)
    refine (impl_ValidColours n xss A c _ (h.below (by (repeat (first | exact Below.refl _ _ | assumption | apply Below.drew | apply below_drewN | (refine Below.alloc ?_ (by first | omega | (simp; done) | (simp; omega)) _) | (refine Below.setCell ?_ (by first | omega | (simp; done) | (simp; omega)) _))))) hl).mono ?_; rintro e w2 ⟨rfl, b2'⟩
    have b2 : Below w.heap.size w w2 := Below.trans (by (repeat (first | exact Below.refl _ _ | assumption | apply Below.drew | apply below_drewN | (refine Below.alloc ?_ (by first | omega | (simp; done) | (simp; omega)) _) | (refine Below.setCell ?_ (by first | omega | (simp; done) | (simp; omega)) _)))) (b2'.mono (by first | omega | (simp; done) | (simp; omega)))
    go_wp2_with (fail)
    go_ret2
    rw [HF.out.1, HF.out.2]
    exact ⟨rfl, b2⟩

end Go.Proofs.Ytnjgmhdmjaijgaa
