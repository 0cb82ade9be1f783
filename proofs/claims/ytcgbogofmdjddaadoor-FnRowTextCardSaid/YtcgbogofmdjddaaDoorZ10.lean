/- Steps of the proof, joined from several texts: DK DL DM DN DO DP. -/
import Derived.Test.YtcgbogofmdjddaaDoorZ9
import Derived.Lib.SplitLaws
import Derived.Lib.IndexBytes
import Derived.Test.YtcgbogofmdjddaaDoorZ3
import Derived.Test.YtcgbogofmdjddaaDoorZ6
import Derived.Test.YtcgbogofmdjddaaDoorZ2

/- Lines of a text, plain: what strings.Split cuts and what the given side reads. -/
namespace Go.Proofs.YtcgbogofmdjddaaDoor
open Go Go.RowKit

def lnL : List UInt8 → List (List UInt8)
  | [] => [[]]
  | b :: r => if b = 10 then [] :: lnL r else match lnL r with
    | [] => [[b]]
    | x :: xs => (b :: x) :: xs
theorem lnL_hit : ∀ (t : List UInt8) (j : Nat), (∀ k, k < j → t[k]? ≠ some 10) → t[j]? = some 10 → lnL t = t.take j :: lnL (t.drop (j + 1))
  | [], j, _, h => by simp at h
  | b :: r, 0, _, h => by
    simp at h
    subst h
    rw [lnL, if_pos rfl]
    simp
  | b :: r, j + 1, h0, h => by
    have hb : b ≠ 10 := by
      have := h0 0 (by omega)
      simpa using this
    have ih := lnL_hit r j (fun k hk => by
      have := h0 (k + 1) (by omega)
      simpa using this) (by simpa using h)
    rw [lnL, if_neg hb, ih]
    simp
theorem lnL_none : ∀ (t : List UInt8), (∀ k : Nat, t[k]? ≠ some 10) → lnL t = [t]
  | [], _ => rfl
  | b :: r, h0 => by
    have hb : b ≠ 10 := by
      have := h0 0
      simpa using this
    have ih := lnL_none r (fun k => by
      have := h0 (k + 1)
      simpa using this)
    rw [lnL, if_neg hb, ih]
theorem split_lnL : ∀ t : List UInt8, Lib.splitK [10] 0 (Lib.count t [10]) t = lnL t
  | [] => by rw [Lib.count_one]; rfl
  | b :: r => by
    have ih := split_lnL r
    by_cases h : b = 10
    · subst h
      rw [Lib.count_cons_eq, Nat.add_comm, Lib.splitK]
      have hix : Lib.index (10 :: r) [10] = 0 := by rw [Lib.index]; simp [List.isPrefixOf]
      rw [hix, lnL, if_pos rfl, ← ih]
      simp
    · rw [Lib.count_cons_ne b 10 r h]
      have hp : ([10] : List UInt8).isPrefixOf (b :: r) = false := by simp [List.isPrefixOf, Ne.symm h]
      have hix : Lib.index (b :: r) [10] = if Lib.index r [10] == -1 then -1 else Lib.index r [10] + 1 := by rw [Lib.index, hp]; simp
      rw [lnL, if_neg h, ← ih]
      cases hc : Lib.count r [10] with
      | zero => rfl
      | succ k =>
        rw [Lib.splitK, Lib.splitK, hix]
        by_cases hm : Lib.index r [10] = -1
        · rw [hm]; rfl
        · have hge := Lib.index_ge r [10]
          obtain ⟨j, hj⟩ : ∃ j : Nat, Lib.index r [10] = j := ⟨(Lib.index r [10]).toNat, by omega⟩
          have e1 : (Lib.index r [10] == -1) = false := by simpa using hm
          have e2 : (((j : Int) + 1) == -1) = false := by rw [beq_eq_false_iff_ne]; omega
          have e3 : ((j : Int) == -1) = false := by rw [beq_eq_false_iff_ne]; omega
          have e4 : ((j : Int) + 1).toNat = j + 1 := by omega
          rw [e1, hj]
          simp [e2, e4]
theorem ext_list (s : ByteArray) (f i : Nat) (_hi : i ≤ s.size) : (s.extract f i).data.toList = (s.data.toList.drop f).take (i - f) := by
  simp [ByteArray.data_extract, List.extract_eq_take_drop]
theorem lnAt_inv (s : ByteArray) : ∀ i, i ≤ s.size → lnL s.data.toList = (lnAt s i).1.map (·.data.toList) ++ lnL (s.data.toList.drop (lnAt s i).2) ∧ ∀ k, (lnAt s i).2 ≤ k → k < i → s.data.toList[k]? ≠ some 10
  | 0, _ => by
    refine ⟨by simp [lnAt], ?_⟩
    intro k _ hk
    omega
  | i + 1, h => by
    obtain ⟨h1, h2⟩ := lnAt_inv s i (by omega)
    have hle := (lnAt_le s i).1
    have hlt : i < s.size := by omega
    have hget : s.data.toList[i]? = some (s.data[i]'hlt) := by
      rw [Array.getElem?_toList]
      exact Array.getElem?_eq_getElem hlt
    by_cases hb : s.data[i]'hlt = 10
    · rw [lnAt_hit hlt hb]
      refine ⟨?_, ?_⟩
      · have hh := lnL_hit (s.data.toList.drop (lnAt s i).2) (i - (lnAt s i).2) (fun k hk => by
          rw [List.getElem?_drop]
          exact h2 _ (by omega) (by omega)) (by
          rw [List.getElem?_drop, show (lnAt s i).2 + (i - (lnAt s i).2) = i by omega, hget, hb])
        rw [h1, hh, List.map_append, List.map_cons, List.map_nil, List.append_assoc, ext_list s _ i (by omega), List.drop_drop]
        simp only [List.cons_append, List.nil_append]
        rw [show (lnAt s i).2 + (i - (lnAt s i).2 + 1) = i + 1 by omega]
      · intro k hk1 hk2
        simp only at hk1
        omega
    · rw [lnAt_miss hlt hb]
      refine ⟨h1, fun k hk1 hk2 => ?_⟩
      by_cases hki : k = i
      · rw [hki, hget]
        intro e
        injection e with e
        exact hb e
      · exact h2 k hk1 (by omega)
/-- What the two sides read: the lines, and what stands behind the last end of a line. -/
theorem lnL_lines (s : ByteArray) : lnL s.data.toList = (linesP s).map (·.data.toList) ++ [s.data.toList.drop (lnAt s s.size).2] := by
  obtain ⟨h1, h2⟩ := lnAt_inv s s.size (Nat.le_refl _)
  rw [h1, linesP]
  congr 1
  apply lnL_none
  intro k
  rw [List.getElem?_drop]
  by_cases hk : (lnAt s s.size).2 + k < s.size
  · exact h2 _ (by omega) hk
  · rw [List.getElem?_eq_none (by rw [Array.length_toList]; have : s.size = s.data.size := rfl; omega)]
    simp
theorem split_lines (s : ByteArray) : (Lib.splitB ⟨#[10]⟩ 0 (Lib.count s.data.toList [10]) s).map (·.data.toList) = (linesP s).map (·.data.toList) ++ [s.data.toList.drop (lnAt s s.size).2] := by
  rw [Lib.splitB_data, ← lnL_lines, ← split_lnL]

end Go.Proofs.YtcgbogofmdjddaaDoor

/- ReadColours: the plain functions, one digit. -/
namespace Go.Proofs.YtcgbogofmdjddaaDoor
open Go Go.RowKit

def digI (b : UInt8) : Int := (b.toNat : Int) - 48
def digS (b : UInt8) : Int := if b.toNat < 48 ∨ 57 < b.toNat then -1 else (b.toNat : Int) - 48
theorem dig_carrier (b : UInt8) : carrierB (digS b) = carrierB (digI b) ∧ (carrierB (digI b) = true → digI b = digS b) := by
  by_cases h : b.toNat < 48 ∨ 57 < b.toNat
  · have e1 : digS b = -1 := by rw [digS, if_pos h]
    have e2 : carrierB (digI b) = false := by
      cases hc : carrierB (digI b)
      · rfl
      · have := inR_iff.1 hc
        unfold digI at this
        omega
    rw [e1, e2]
    exact ⟨by decide, fun x => by cases x⟩
  · have e1 : digS b = digI b := by rw [digS, if_neg h]; rfl
    rw [e1]
    exact ⟨rfl, fun _ => rfl⟩
theorem digs_row (l : List UInt8) (n : Int) : rowOfB n (l.map digS) = rowOfB n (l.map digI) ∧ (rowOfB n (l.map digI) = true → l.map digI = l.map digS) := by
  have h1 : (l.map digS).all carrierB = (l.map digI).all carrierB := by
    rw [List.all_map, List.all_map]
    exact congrFun (congrArg List.all rfl) _ |>.trans (by congr 1; funext b; exact (dig_carrier b).1)
  refine ⟨by unfold rowOfB; rw [h1, List.length_map, List.length_map], fun h => ?_⟩
  unfold rowOfB at h
  simp only [Bool.and_eq_true, List.all_eq_true] at h
  exact List.map_congr_left fun b hb => (dig_carrier b).2 (h.2 _ (List.mem_map_of_mem hb))
def rcS (s : ByteArray) : List (List Int) := (linesP s).map fun l => l.data.toList.map digS
def rcI (s : ByteArray) : List (List Int) := (linesP s).map fun l => l.data.toList.map digI
/-- The columns: the length of the first line. -/
def rcN (s : ByteArray) : Int := ((((linesP s)[0]?).getD (⟨#[]⟩ : ByteArray)).size : Int)
def rcOk (s : ByteArray) : Bool := linesOk s && inR (linesP s).length 1 8 && coloursB (rcN s) (rcS s)
def rcRows (s : ByteArray) : List (List Int) := if rcOk s then rcS s else []
def rcCols (s : ByteArray) : Int := if rcOk s then rcN s else 0
theorem rc_same (s : ByteArray) (n : Int) : coloursB n (rcS s) = coloursB n (rcI s) ∧ (coloursB n (rcI s) = true → rcI s = rcS s) := by
  have h1 : (rcS s).all (rowOfB n) = (rcI s).all (rowOfB n) := by
    unfold rcS rcI
    rw [List.all_map, List.all_map]
    congr 1
    funext l
    exact (digs_row _ n).1
  have h2 : (rcS s).length = (rcI s).length := by simp [rcS, rcI]
  refine ⟨by unfold coloursB; rw [h1, h2], fun h => ?_⟩
  unfold coloursB at h
  simp only [Bool.and_eq_true, List.all_eq_true] at h
  exact List.map_congr_left fun l hl => (digs_row _ n).2 (h.2 _ (List.mem_map_of_mem hl))
theorem rcRows_length (s : ByteArray) : (rcRows s).length ≤ 8 := by
  unfold rcRows
  split
  · rename_i h
    unfold rcOk at h
    simp only [Bool.and_eq_true] at h
    have := inR_iff.1 h.1.2
    simp only [rcS, List.length_map]
    omega
  · simp
/-- What strings.Split gives ends with nothing just where the text ends with the end of a line. -/
theorem lines_last (s : ByteArray) : linesOk s = decide (s.data.toList.drop (lnAt s s.size).2 = []) := by
  have h := (lnAt_le s s.size).1
  have hs : s.size = s.data.toList.length := ba_size s
  unfold linesOk
  by_cases he : (lnAt s s.size).2 = s.size
  · rw [he, hs, List.drop_length]
    simp
  · have h1 : (((lnAt s s.size).2 : Int) == (s.size : Int)) = false := by rw [beq_eq_false_iff_ne]; omega
    rw [h1, decide_eq_false]
    rw [List.drop_eq_nil_iff]
    omega

theorem spec_l15Digit (b : UInt8) (w : World) : Calls Tryd.prog 40 #[.int .u8 (b.toNat : Int)] w fun e w' => e = .returned (.int .i64 (digS b)) ∧ w = w' := by
  have hb := b.toNat_lt
  by_cases h1 : b.toNat < 48
  · have HF : Hid (digS b = -1) := Lib.hid (by rw [digS, if_pos (.inl h1)])
    have d1 : decide ((b.toNat : Int) < 48) = true := decide_eq_true (by omega)
    go_enter Tryd.func40, Tryd.ntmps40
    go_wp2_with (fail)
    go_ret
    exact ⟨by rw [HF.out]; rfl, rfl⟩
  · have d1 : decide ((b.toNat : Int) < 48) = false := decide_eq_false (by omega)
    by_cases h2 : 57 < b.toNat
    · have HF : Hid (digS b = -1) := Lib.hid (by rw [digS, if_pos (.inr h2)])
      have d2 : decide ((57 : Int) < (b.toNat : Int)) = true := decide_eq_true (by omega)
      go_enter Tryd.func40, Tryd.ntmps40
      go_wp2_with (fail)
      go_ret
      exact ⟨by rw [HF.out]; rfl, rfl⟩
    · have HF : Hid (digS b = (b.toNat : Int) - 48) := Lib.hid (by rw [digS, if_neg (by omega)])
      have d2 : decide ((57 : Int) < (b.toNat : Int)) = false := decide_eq_false (by omega)
      have w1 : IntKind.u8.wrap ((b.toNat : Int) - 48) = (b.toNat : Int) - 48 := IntWalk.u8_in _ ⟨by omega, by omega⟩
      have w2 : IntKind.i64.wrap ((b.toNat : Int) - 48) = (b.toNat : Int) - 48 := IntWalk.i64_in _ ⟨by omega, by omega⟩
      go_enter Tryd.func40, Tryd.ntmps40
      go_wp2_with (fail)
      go_ret
      exact ⟨by rw [HF.out]; rfl, rfl⟩

end Go.Proofs.YtcgbogofmdjddaaDoor

/- ReadColours: the given side. -/
namespace Go.Proofs.YtcgbogofmdjddaaDoor
open Go Go.RowKit

theorem lnAt_size (s : ByteArray) (i : Nat) : ∀ l ∈ (lnAt s i).1, l.size ≤ s.size := by
  induction i with
  | zero => intro l hl; cases hl
  | succ i ih =>
    rw [lnAt]
    split
    · intro l hl
      rcases List.mem_append.1 hl with hl | hl
      · exact ih l hl
      · rw [List.mem_singleton.1 hl, ByteArray.size_extract]; omega
    · exact ih
def rowOfL (l : ByteArray) : List Int := l.data.toList.map digS
theorem rowOfL_length (l : ByteArray) : (rowOfL l).length = l.size := by rw [rowOfL, List.length_map, ← ba_size]
theorem rowOfL_at (l : ByteArray) (j : Nat) (h : j < l.size) : (rowOfL l).take (j + 1) = (rowOfL l).take j ++ [digS (l[j]'h)] := by
  apply take_snoc
  rw [rowOfL, List.getElem?_map, Array.getElem?_toList, Array.getElem?_eq_getElem h]
  rfl

set_option maxHeartbeats 4000000 in
set_option maxRecDepth 10000 in
theorem spec_ReadColours (s : ByteArray) (w : World) (hl : s.size ≤ 1000000000) :
    Calls Tryd.prog 9 #[.string s] w fun e w' => ∃ A' c', e = .returned (.tuple #[.agg #[.int .i64 (rcCols s), .slice A' (rcRows s).length c'], .bool (rcOk s)]) ∧ OwnII w' w.heap.size w'.heap.size A' (rcRows s).length c' (rcRows s) ∧ Below w.heap.size w w' := by
  have kz := Blk.new w 24 #[.int .i64 0, .slice none 0 0]
  have hb1 : Below w.heap.size w (w.alloc (.cells #[.int .i64 0, .slice none 0 0] 24)) := by (repeat (first | exact Below.refl _ _ | assumption | apply Below.drew | apply below_drewN | (refine Below.alloc ?_ (by first | omega | (simp; done) | (simp; omega)) _) | (refine Below.setCell ?_ (by first | omega | (simp; done) | (simp; omega)) _)))
  cases hok : linesOk s
  · have HF : Hid (rcRows s = [] ∧ rcCols s = 0 ∧ rcOk s = false) := Lib.hid (by
      have e : rcOk s = false := by rw [rcOk, hok]; rfl
      rw [rcRows, rcCols, e]; exact ⟨rfl, rfl, rfl⟩)
    go_enter Tryd.func9, Tryd.ntmps9
    go_wp2_with (fail)
    refine (spec_l15Lines s _ hl).mono ?_; rintro e w2 ⟨A2, c2, rfl, o2, b2⟩
    rw [hok]
    have hb2 := hb1.trans (b2.mono (by simp))
    have kz2 := kz.below b2 (by simp)
    obtain ⟨r0, r1⟩ := kz2.c2
    have g0 := kz2.frozen 0
    have g1 := kz2.frozen 1
    generalize (linesP s).length = m
    go_wp2_with (fail)
    refine bodyPost_ret (v := .tuple #[.agg #[.int .i64 (rcCols s), .slice none (rcRows s).length 0], .bool (rcOk s)]) (by rw [HF.out.1, HF.out.2.1, HF.out.2.2]; simp [results, Tryd.results9, go_sem, r0, r1]) rfl ⟨none, 0, rfl, ?_, ?_⟩
    · rw [HF.out.1]
      exact ⟨[], OwnC.nil _ _ _ _ _, ⟨rfl, fun k xs hx => by simp at hx, fun i j v v' g hi' => by simp at hi'⟩⟩
    · (repeat (first | exact Below.refl _ _ | assumption | apply Below.drew | apply below_drewN | (refine Below.alloc ?_ (by first | omega | (simp; done) | (simp; omega)) _) | (refine Below.setCell ?_ (by first | omega | (simp; done) | (simp; omega)) _)))
  · cases hin : inR (linesP s).length 1 8
    · have HF : Hid (rcRows s = [] ∧ rcCols s = 0 ∧ rcOk s = false) := Lib.hid (by
        have e : rcOk s = false := by rw [rcOk, hin, Bool.and_false]; rfl
        rw [rcRows, rcCols, e]; exact ⟨rfl, rfl, rfl⟩)
      go_enter Tryd.func9, Tryd.ntmps9
      go_wp2_with (fail)
      refine (spec_l15Lines s _ hl).mono ?_; rintro e w2 ⟨A2, c2, rfl, o2, b2⟩
      rw [hok]
      have hb2 := hb1.trans (b2.mono (by simp))
      have kz2 := kz.below b2 (by simp)
      obtain ⟨r0, r1⟩ := kz2.c2
      have g0 := kz2.frozen 0
      have g1 := kz2.frozen 1
      go_wp2_with (go_at_call 39; refine (spec_l00In _ _ _ _).mono ?_; rintro e _ ⟨rfl, rfl⟩; rw [hin])
      refine bodyPost_ret (v := .tuple #[.agg #[.int .i64 (rcCols s), .slice none (rcRows s).length 0], .bool (rcOk s)]) (by rw [HF.out.1, HF.out.2.1, HF.out.2.2]; simp [results, Tryd.results9, go_sem, r0, r1]) rfl ⟨none, 0, rfl, ?_, ?_⟩
      · rw [HF.out.1]
        exact ⟨[], OwnC.nil _ _ _ _ _, ⟨rfl, fun k xs hx => by simp at hx, fun i j v v' g hi' => by simp at hi'⟩⟩
      · (repeat (first | exact Below.refl _ _ | assumption | apply Below.drew | apply below_drewN | (refine Below.alloc ?_ (by first | omega | (simp; done) | (simp; omega)) _) | (refine Below.setCell ?_ (by first | omega | (simp; done) | (simp; omega)) _)))
    · obtain ⟨iR, hi0, hz0, hz1, hz2⟩ := info_parts info_ints
      obtain ⟨iI, hi1, hy0, hy1, hy2⟩ := info_parts info_int64
      have t1 : (24 : TypeId) ≠ 2 := by decide
      have t2 : (24 : TypeId) ≠ 35 := by decide
      have t3 : (2 : TypeId) ≠ 35 := by decide
      obtain ⟨x1, x8⟩ := inR_iff.1 hin
      have hls := lnAt_size s s.size
      have hOK : rcOk s = coloursB (rcN s) ((linesP s).map rowOfL) := by
        rw [rcOk, hok, hin]; rfl
      have HOK := Lib.hid hOK; clear hOK
      have hRS : rcS s = (linesP s).map rowOfL := rfl
      have HRS := Lib.hid hRS; clear hRS
      have hNN : rcN s = ((((linesP s)[0]?).getD (⟨#[]⟩ : ByteArray)).size : Int) := rfl
      have HNN := Lib.hid hNN; clear hNN
      have HLS : Hid (∀ l ∈ linesP s, l.size ≤ 1000000000) := Lib.hid (fun l h => Nat.le_trans (hls l h) hl)
      clear hls
      go_enter Tryd.func9, Tryd.ntmps9
      go_wp2_with (fail)
      refine (spec_l15Lines s _ hl).mono ?_; rintro e w2 ⟨A2, c2, rfl, o2, b2⟩
      rw [hok]
      have hb2 := hb1.trans (b2.mono (by simp))
      have kz2 := kz.below b2 (by simp)
      have hz2' := hb2.size
      generalize linesP s = ls at *
      have hlc : ∀ k l, ls[k]? = some l → ∃ b off, A2 = some ⟨b, off, none⟩ ∧ w2.cell? ⟨b, off + k, none⟩ = some (.string l) := fun k l hk => o2.news k (.string l) (by rw [List.getElem?_map, hk]; rfl)
      have HLC := Lib.hid hlc; clear hlc
      obtain ⟨l0, hl0⟩ : ∃ l0, ls[0]? = some l0 := ⟨_, List.getElem?_eq_getElem (by omega)⟩
      obtain ⟨b, off, rfl, hc00⟩ := HLC.out 0 l0 hl0
      have hc0 : w2.cell? ⟨b, off, none⟩ = some (.string l0) := hc00
      clear hc00
      have HNL : Hid (rcN s = (l0.size : Int)) := Lib.hid (by rw [HNN.out, hl0]; rfl)
      have hzl := HLS.out l0 (List.mem_of_getElem? hl0)
      clear hl0 HNN
      have j0 : (0 : Int) < (ls.length : Int) := by omega
      have HIN := Lib.hid hin; clear hin
      have hkzl := kz2.lt
      go_wp2_with (go_at_call 39; refine (spec_l00In _ _ _ _).mono ?_; rintro e _ ⟨rfl, rfl⟩; rw [HIN.out])
      go_loopw [7] (fun iv wr => ∃ (k : Nat) (A' : Option Addr) (c' : Nat) (cs : List Value), k ≤ ls.length ∧ iv = .int .i64 k ∧ Blk wr w2.heap.size 24 #[.int .i64 (l0.size : Int), .slice A' k c'] ∧ OwnC wr w2.heap.size wr.heap.size 35 1 A' k c' cs ∧ CellsII wr w2.heap.size wr.heap.size cs ((ls.take k).map rowOfL) ∧ Below w2.heap.size w2 wr) (fun iv _ => ls.length - (intOf iv).toNat)
      case atStart =>
        exact ⟨0, none, 0, [], Nat.zero_le _, rfl, Blk.new _ _ _, OwnC.nil _ _ _ _ _, ⟨rfl, fun k xs hx => by simp at hx, fun i j v v' g hi' => by simp at hi'⟩, (Below.refl _ _).alloc (Nat.le_refl _) _⟩
      case round =>
        clear hc0
        obtain ⟨k, A', c', cs, hk, rfl, ko, ho, hci, hb⟩ := hrel
        have hzs := hb.size
        have hzo := ko.lt
        by_cases hlt : k < ls.length
        · obtain ⟨l, hx⟩ : ∃ l, ls[k]? = some l := ⟨_, List.getElem?_eq_getElem hlt⟩
          obtain ⟨b', off', hA, hc⟩ := HLC.out k l hx
          injection hA with hA
          injection hA with hA1 hA2
          subst hA1 hA2
          have hll := HLS.out l (List.mem_of_getElem? hx)
          have HX := Lib.hid hx; clear hx
          have HC := Lib.hid hc
          replace hc := cells_below hb _ _ hc
          have j1 : (0 : Int) ≤ (k : Int) := by omega
          have j2 : (k : Int) < (ls.length : Int) := by omega
          obtain ⟨W1, rfl⟩ : ∃ W1, W1 = wr := ⟨wr, rfl⟩
          go_wp2_with (fail)
          go_loopw [8, 9] (fun rv jv ws => ∃ (j : Nat) (A3 : Option Addr) (c3 : Nat), j ≤ l.size ∧ jv = .int .i64 (j : Int) ∧ rv = .slice A3 ((rowOfL l).take j).length c3 ∧ OwnI ws W1.heap.size ws.heap.size A3 c3 ((rowOfL l).take j) ∧ Below W1.heap.size W1 ws) (fun _ jv _ => l.size - (intOf jv).toNat)
          case atStart =>
            exact ⟨0, some ⟨W1.heap.size, 0, none⟩, 0, Nat.zero_le _, rfl, rfl, (OwnC.lit _ 1 #[] (Nat.le_refl _) (Nat.zero_le _) rfl).mono (Nat.le_refl _) (by simp), by (repeat (first | exact Below.refl _ _ | assumption | apply Below.drew | apply below_drewN | (refine Below.alloc ?_ (by first | omega | (simp; done) | (simp; omega)) _) | (refine Below.setCell ?_ (by first | omega | (simp; done) | (simp; omega)) _)))⟩
          case round =>
            clear hc
            obtain ⟨j, A3, c3, hj, rfl, rfl, ho3, hb3⟩ := hrel
            have hz3 := hb3.size
            have hbb : Below w2.heap.size w2 wr := hb.trans (hb3.mono hzs)
            have ko3 := ko.below hb3 hzo
            have hc3 := cells_below hbb _ _ HC.out
            by_cases hjl : j < l.size
            · have HR := Lib.hid (rowOfL_at l j hjl)
              have m1 : (0 : Int) ≤ (j : Int) := by omega
              have m2 : (j : Int) < (l.size : Int) := by omega
              have hL8 : ((rowOfL l).take j).length ≤ 1000000000 := by rw [List.length_take, rowOfL_length]; omega
              have HD := Lib.hid (fun W => spec_l15Digit (l[j]'hjl) W)
              obtain ⟨x, hx⟩ : ∃ x, digS (l[j]'hjl) = x := ⟨_, rfl⟩
              rw [hx] at HR HD
              clear hx
              generalize (rowOfL l).take j = L at ho3 HR hL8 ⊢
              go_wp2_with (first | (go_at_call 40; refine (HD.out _).mono ?_; rintro e _ ⟨rfl, rfl⟩) | (at_builtin; refine wpList_append1 wr [.int .i64 x] _ rfl (.tmp 45) (.tmp 53) _ rfl 2 iI _ 1 8 Tryd.underlying35 hi1 hy0 hy1 hy2 rfl (by decide) rfl ho3 hz3 1 rfl rfl (by simp [Value.oneCell']) (by omega) (by decide) ?_; intro A4 c4 w4 ho4 hg4 hb4 hz4))
              go_roundw
              case rel =>
                refine ⟨j + 1, A4, c4, by omega, by go_num, by rw [HR.out]; simp, ?_, hb3.trans hb4⟩
                rw [HR.out]
                show OwnC _ _ _ _ _ _ _ _ _
                rw [List.map_append, List.length_append]
                exact ho4
              case measure => first | (simp [intOf]; done) | (simp [intOf]; omega)
            · obtain rfl : j = l.size := by omega
              rw [take_all (by rw [rowOfL_length]; exact Nat.le_refl _)] at ho3 ⊢
              have hL8 : (rowOfL l).length ≤ 1000000000 := by rw [rowOfL_length]; omega
              have HS : Hid ((ls.take (k + 1)).map rowOfL = (ls.take k).map rowOfL ++ [rowOfL l]) := Lib.hid (by rw [take_snoc HX.out, List.map_append]; rfl)
              generalize rowOfL l = L at ho3 hL8 HS ⊢
              have ho' := (ho.below hb3 (Nat.le_refl _)).mono (Nat.le_refl _) hz3
              have ci3 : CellsII wr w2.heap.size W1.heap.size cs ((ls.take k).map rowOfL) := hci.keep fun q _ h2 _ => hb3.block q h2
              obtain ⟨p0, p1⟩ := ko3.c2
              have hlw : w2.heap.size ≤ wr.heap.size := by omega
              have hk8 : k ≤ 1000000000000 := by omega
              go_wp2_with (at_builtin; refine wpList_append1 wr [.slice A3 L.length c3] _ rfl (.tmp 56) (.tmp 58) _ rfl 35 iR _ 1 24 Tryd.underlying22 hi0 hz0 hz1 hz2 rfl (by decide) rfl ho' hlw 1 rfl rfl (by simp [Value.oneCell']) hk8 (by decide) ?_; intro A5 c5 w5 ho5 hg5 hb5 hz5; have ko5 := (ko3.alloc (.cells #[.slice A3 L.length c3] 35)).grownT (ho'.alloc (.cells #[.slice A3 L.length c3] 35)) t2 hg5; obtain ⟨s0, s1⟩ := ko5.c2; have f1 := ko5.frozen 1)
              have ko5 := (ko3.alloc (.cells #[.slice A3 L.length c3] 35)).grownT (ho'.alloc (.cells #[.slice A3 L.length c3] 35)) t2 hg5
              have or5 := (ho3.alloc (.cells #[.slice A3 L.length c3] 35)).grownT (ho'.alloc (.cells #[.slice A3 L.length c3] 35)) t3 hg5
              have ci5 := (ci3.keep (w' := wr.alloc (.cells #[.slice A3 L.length c3] 35)) fun q _ _ h3 => Below.heap_alloc wr _ q h3).grownT (ho'.alloc (.cells #[.slice A3 L.length c3] 35)) t3 hg5
              have ci6 : CellsII w5 w2.heap.size w5.heap.size (cs ++ [.slice A3 L.length c3]) ((ls.take k).map rowOfL ++ [L]) := ci5.snoc (or5.mono (Nat.le_refl _) (by omega)) hzs (by omega)
              have hb6 : Below w2.heap.size w2 w5 := hbb.trans hb5
              refine ⟨⟨k + 1, A5, c5, cs ++ [.slice A3 L.length c3], by omega, by go_num, ko5.set21 _, (ho5.farT ko5 t2 1 _).mono (Nat.le_refl _) (by simp), ?_, by (repeat (first | exact Below.refl _ _ | assumption | apply Below.drew | apply below_drewN | (refine Below.alloc ?_ (by first | omega | (simp; done) | (simp; omega)) _) | (refine Below.setCell ?_ (by first | omega | (simp; done) | (simp; omega)) _)))⟩, by simp [intOf]; omega⟩
              rw [HS.out]
              exact (ci6.farT ko5 t1 1 _).mono (Nat.le_refl _) (by simp)
        · have hk' : k = ls.length := by omega
          subst hk'
          rw [take_all (Nat.le_refl _)] at hci
          have hlen : (ls.map rowOfL).length = ls.length := List.length_map ..
          generalize ls.map rowOfL = xss at hci hlen HOK HRS
          have oii : OwnII wr w2.heap.size wr.heap.size A' xss.length c' xss := ⟨cs, by rw [hlen]; exact ho, hci⟩
          obtain ⟨p0, p1⟩ := ko.c2
          rw [← hlen] at p1
          have kzr := kz2.below hb hkzl
          have hxl : xss.length ≤ 8 := by omega
          have hbw : Below w.heap.size w wr := hb2.trans (hb.mono hz2')
          have hz0w := hbw.size
          cases hcv : coloursB (l0.size : Int) xss
          · have HF : Hid (rcRows s = [] ∧ rcCols s = 0 ∧ rcOk s = false) := Lib.hid (by
              have e : rcOk s = false := by rw [HOK.out, HNL.out, hcv]
              rw [rcRows, rcCols, e]; exact ⟨rfl, rfl, rfl⟩)
            go_wp2_with (fail)
            refine (spec_l19Ok w2.heap.size 0 (l0.size : Int) A' c' xss _ oii.ints2 (by omega) p0 p1).mono ?_; rintro e w3 ⟨rfl, hdr⟩
            have b3 : Below wr.heap.size wr w3 := by obtain ⟨q, rfl⟩ := hdr; exact below_drewN (Below.refl _ _) q
            rw [hcv]
            have kz3 := kzr.below b3 kzr.lt
            obtain ⟨r0, r1⟩ := kz3.c2
            have g0 := kz3.frozen 0
            have g1 := kz3.frozen 1
            have hb3 : Below w.heap.size w w3 := hbw.trans (b3.mono hz0w)
            clear hdr
            go_wp2_with (fail)
            refine bodyPost_ret (v := .tuple #[.agg #[.int .i64 (rcCols s), .slice none (rcRows s).length 0], .bool (rcOk s)]) (by rw [HF.out.1, HF.out.2.1, HF.out.2.2]; simp [results, Tryd.results9, go_sem, r0, r1]) rfl ⟨none, 0, rfl, ?_, ?_⟩
            · rw [HF.out.1]
              exact ⟨[], OwnC.nil _ _ _ _ _, ⟨rfl, fun k xs hx => by simp at hx, fun i j v v' g hi' => by simp at hi'⟩⟩
            · (repeat (first | exact Below.refl _ _ | assumption | apply Below.drew | apply below_drewN | (refine Below.alloc ?_ (by first | omega | (simp; done) | (simp; omega)) _) | (refine Below.setCell ?_ (by first | omega | (simp; done) | (simp; omega)) _)))
          · have HF : Hid (rcRows s = xss ∧ rcCols s = (l0.size : Int) ∧ rcOk s = true) := Lib.hid (by
              have e : rcOk s = true := by rw [HOK.out, HNL.out, hcv]
              rw [rcRows, rcCols, e, HRS.out, HNL.out]; exact ⟨rfl, rfl, rfl⟩)
            go_wp2_with (fail)
            refine (spec_l19Ok w2.heap.size 0 (l0.size : Int) A' c' xss _ oii.ints2 (by omega) p0 p1).mono ?_; rintro e w3 ⟨rfl, hdr⟩
            have b3 : Below wr.heap.size wr w3 := by obtain ⟨q, rfl⟩ := hdr; exact below_drewN (Below.refl _ _) q
            rw [hcv]
            have kz3 := kzr.below b3 kzr.lt
            have ko3 := ko.below b3 hzo
            have ho3 := ho.below b3 (Nat.le_refl _)
            have hc3 : CellsII w3 w2.heap.size wr.heap.size cs xss := hci.keep fun q _ h2 _ => b3.block q h2
            obtain ⟨r0, r1⟩ := kz3.c2
            have g0 := kz3.frozen 0
            have g1 := kz3.frozen 1
            obtain ⟨u0, u1⟩ := ko3.c2
            rw [← hlen] at u1
            have hb3 : Below w.heap.size w w3 := hbw.trans (b3.mono hz0w)
            have hz3 := b3.size
            clear hdr
            go_wp2_with (fail)
            refine bodyPost_ret (v := .tuple #[.agg #[.int .i64 (rcCols s), .slice A' (rcRows s).length c'], .bool (rcOk s)]) (by rw [HF.out.1, HF.out.2.1, HF.out.2.2]; simp [results, Tryd.results9, go_sem, r0, r1, hlen]) rfl ⟨A', c', rfl, ?_, ?_⟩
            · rw [HF.out.1]
              have k1 := kz3.set20 (.int .i64 (l0.size : Int))
              show OwnII _ _ _ _ xss.length _ xss
              rw [← hlen] at ho3
              exact ⟨cs, ((ho3.farT kz3 t2 0 _).farT k1 t2 1 _).mono (by omega) (by simp; omega), ((hc3.farT kz3 t1 0 _).farT k1 t1 1 _).mono (by omega) (by simp; omega)⟩
            · (repeat (first | exact Below.refl _ _ | assumption | apply Below.drew | apply below_drewN | (refine Below.alloc ?_ (by first | omega | (simp; done) | (simp; omega)) _) | (refine Below.setCell ?_ (by first | omega | (simp; done) | (simp; omega)) _)))

end Go.Proofs.YtcgbogofmdjddaaDoor

/- ReadColours: what strings.Split gives. -/
namespace Go.Proofs.YtcgbogofmdjddaaDoor
open Go Go.RowKit

theorem ba_inj {a b : ByteArray} (h : a.data.toList = b.data.toList) : a = b := ByteArray.ext (Array.toList_inj.1 h)
theorem bas_inj : ∀ {xs ys : List ByteArray}, xs.map (·.data.toList) = ys.map (·.data.toList) → xs = ys
  | [], [], _ => rfl
  | [], _ :: _, h => by simp at h
  | _ :: _, [], h => by simp at h
  | x :: xs, y :: ys, h => by
    rw [List.map_cons, List.map_cons] at h
    injection h with h1 h2
    rw [ba_inj h1, bas_inj h2]
/-- What stands behind the last end of a line. -/
def restP (s : ByteArray) : ByteArray := s.extract (lnAt s s.size).2 s.size
theorem split_eq (s : ByteArray) : Lib.splitB ⟨#[10]⟩ 0 (Lib.countB s ⟨#[10]⟩) s = linesP s ++ [restP s] := by
  apply bas_inj
  have h := split_lines s
  have hc : Lib.countB s ⟨#[10]⟩ = Lib.count s.data.toList [10] := rfl
  rw [hc, h, List.map_append, List.map_cons, List.map_nil, restP, ext_list s _ s.size (Nat.le_refl _)]
  congr 2
  rw [List.take_of_length_le]
  rw [List.length_drop, ba_size]
  omega
theorem split_count (s : ByteArray) : Lib.countB s ⟨#[10]⟩ + 1 = (linesP s).length + 1 := by
  have h := Lib.splitB_all ⟨#[10]⟩ (by decide) 0 _ s rfl
  rw [split_eq, List.length_append] at h
  simp only [List.length_cons, List.length_nil] at h
  omega
theorem rest_ok (s : ByteArray) : linesOk s = (restP s).toList.isEmpty := by
  rw [lines_last, ByteArray.toList_eq, restP, ext_list s _ s.size (Nat.le_refl _)]
  rw [List.take_of_length_le (by rw [List.length_drop, ba_size]; omega)]
  cases s.data.toList.drop (lnAt s s.size).2 with
  | nil => rfl
  | cons => simp

theorem impl_Split (s : ByteArray) (m : Int) (w : World) (hl : s.size ≤ 1000000000) (hm : w.cell? SK_cell = some (.int .i64 m)) :
    Calls Tryd.prog 42 #[.string s, .string ⟨#[10]⟩] w fun e w' => e = .returned (.slice (some ⟨w.heap.size, 0, none⟩) ((linesP s).length + 1) ((linesP s).length + 1)) ∧ w' = w.alloc (.cells ((linesP s ++ [restP s]).map Value.string).toArray 9) := by
  have h := shelf_strings_Split s ⟨#[10]⟩ m w (by omega) hm (by decide)
  rw [split_eq, split_count] at h
  exact h

end Go.Proofs.YtcgbogofmdjddaaDoor

/- ReadColours: the program's side. -/
namespace Go.Proofs.YtcgbogofmdjddaaDoor
open Go Go.RowKit

def rowOfI (l : ByteArray) : List Int := l.data.toList.map digI
theorem rowOfI_length (l : ByteArray) : (rowOfI l).length = l.size := by rw [rowOfI, List.length_map, ← ba_size]
theorem rowOfI_at (l : ByteArray) (j : Nat) (h : j < l.size) : (rowOfI l).take (j + 1) = (rowOfI l).take j ++ [digI (l[j]'h)] := by
  apply take_snoc
  rw [rowOfI, List.getElem?_map, Array.getElem?_toList, Array.getElem?_eq_getElem h]
  rfl
theorem rc_prog {s l0 : ByteArray} (hok : linesOk s = true) (h8 : (linesP s).length ≤ 8) (h0 : (linesP s ++ [restP s])[0]? = some l0) :
    rcOk s = coloursB (l0.size : Int) ((linesP s).map rowOfI) ∧ (rcOk s = true → rcRows s = (linesP s).map rowOfI ∧ rcCols s = (l0.size : Int) ∧ rcOk s = true) := by
  have hI : (linesP s).map rowOfI = rcI s := rfl
  rw [hI]
  by_cases h1 : 1 ≤ (linesP s).length
  · have hN : rcN s = (l0.size : Int) := by
      rw [List.getElem?_append_left (by omega)] at h0
      rw [rcN, h0]; rfl
    have hin : inR (linesP s).length 1 8 = true := inR_iff.2 ⟨by omega, by omega⟩
    have he : rcOk s = coloursB (l0.size : Int) (rcI s) := by
      rw [rcOk, hok, hin, hN, ← (rc_same s _).1]; rfl
    refine ⟨he, fun h => ?_⟩
    have h2 := (rc_same s (l0.size : Int)).2 (by rw [← he]; exact h)
    rw [rcRows, rcCols, h, hN, h2]
    exact ⟨rfl, rfl, rfl⟩
  · have hL : (linesP s).length = 0 := by omega
    have hin : inR (linesP s).length 1 8 = false := by rw [hL]; decide
    have e1 : rcOk s = false := by rw [rcOk, hin, Bool.and_false]; rfl
    have e2 : coloursB (l0.size : Int) (rcI s) = false := by
      have : (rcI s).length = 0 := by simp [rcI, hL]
      unfold coloursB
      rw [this, show inR ((0 : Nat) : Int) 1 8 = false from by decide, Bool.and_false]; rfl
    rw [e1, e2]
    exact ⟨rfl, fun x => by cases x⟩

theorem split_post (s : ByteArray) (m : Int) (w : World) (hl : s.size ≤ 1000000000) (hm : w.cell? SK_cell = some (.int .i64 m)) :
    Calls Tryd.prog 42 #[.string s, .string ⟨#[10]⟩] w fun e w' => ∃ g, e = .returned (.slice (some ⟨g, 0, none⟩) ((linesP s).length + 1) ((linesP s).length + 1)) ∧ (∀ k l, (linesP s ++ [restP s])[k]? = some l → w'.cell? ⟨g, 0 + k, none⟩ = some (.string l)) ∧ Below w.heap.size w w' := by
  refine (impl_Split s m w hl hm).mono ?_
  rintro e w' ⟨h1, rfl⟩
  refine ⟨w.heap.size, h1, fun k l hk => ?_, (Below.refl _ _).alloc (Nat.le_refl _) _⟩
  have := World.cell?_alloc_new w ((linesP s ++ [restP s]).map Value.string).toArray 9 (0 + k)
  rw [this, List.getElem?_toArray, List.getElem?_map, Nat.zero_add, hk]
  rfl

set_option maxHeartbeats 4000000 in
set_option maxRecDepth 10000 in
theorem impl_ReadColours (s : ByteArray) (m : Int) (w : World) (hl : s.size ≤ 1000000000) (hm : w.cell? SK_cell = some (.int .i64 m)) :
    Calls Tryd.prog 10 #[.string s] w fun e w' => ∃ A' c', e = .returned (.tuple #[.agg #[.int .i64 (rcCols s), .slice A' (rcRows s).length c'], .bool (rcOk s)]) ∧ OwnII w' w.heap.size w'.heap.size A' (rcRows s).length c' (rcRows s) ∧ Below w.heap.size w w' := by
  have kz := Blk.new w 24 #[.int .i64 0, .slice none 0 0]
  have hb1 : Below w.heap.size w (w.alloc (.cells #[.int .i64 0, .slice none 0 0] 24)) := by (repeat (first | exact Below.refl _ _ | assumption | apply Below.drew | apply below_drewN | (refine Below.alloc ?_ (by first | omega | (simp; done) | (simp; omega)) _) | (refine Below.setCell ?_ (by first | omega | (simp; done) | (simp; omega)) _)))
  have HM := Lib.hid (cell_alloc hm (.cells #[.int .i64 0, .slice none 0 0] 24))
  clear hm
  have HLEN : Hid ((linesP s).length ≤ 1000000000) := Lib.hid (Nat.le_trans (lnAt_le s s.size).2 hl)
  by_cases h8 : (linesP s).length ≤ 8
  · cases hok : linesOk s
    · have HF : Hid (rcRows s = [] ∧ rcCols s = 0 ∧ rcOk s = false) := Lib.hid (by
        have e : rcOk s = false := by rw [rcOk, hok]; rfl
        rw [rcRows, rcCols, e]; exact ⟨rfl, rfl, rfl⟩)
      have hre : (!(restP s).toList.isEmpty) = true := by rw [← rest_ok, hok]; rfl
      go_enter Tryd.func10, Tryd.ntmps10
      go_wp2_with (fail)
      refine (split_post s m _ hl HM.out).mono ?_; rintro e w2 ⟨g, rfl, hcs, b2⟩
      have hb2 := hb1.trans (b2.mono (by simp))
      have hcl : w2.cell? ⟨g, (linesP s).length, none⟩ = some (.string (restP s)) := by
        have := hcs (linesP s).length (restP s) (by simp)
        rwa [Nat.zero_add] at this
      clear hcs
      generalize (linesP s).length = L at *
      generalize restP s = rs at *
      have w1 : IntKind.i64.wrap ((L : Int) + 1 - 1) = (L : Int) := by rw [IntWalk.i64_in _ ⟨by omega, by omega⟩]; omega
      have d8 : decide ((8 : Int) < (L : Int)) = false := decide_eq_false (by omega)
      have d0 : (0 : Int) ≤ (L : Int) := by omega
      have kz2 := kz.below b2 (by simp)
      obtain ⟨r0, r1⟩ := kz2.c2
      have g0 := kz2.frozen 0
      have g1 := kz2.frozen 1
      go_wp2_with (fail)
      refine bodyPost_ret (v := .tuple #[.agg #[.int .i64 (rcCols s), .slice none (rcRows s).length 0], .bool (rcOk s)]) (by rw [HF.out.1, HF.out.2.1, HF.out.2.2]; simp [results, Tryd.results10, go_sem, r0, r1]) rfl ⟨none, 0, rfl, ?_, ?_⟩
      · rw [HF.out.1]
        exact ⟨[], OwnC.nil _ _ _ _ _, ⟨rfl, fun k xs hx => by simp at hx, fun i j v v' g hi' => by simp at hi'⟩⟩
      · (repeat (first | exact Below.refl _ _ | assumption | apply Below.drew | apply below_drewN | (refine Below.alloc ?_ (by first | omega | (simp; done) | (simp; omega)) _) | (refine Below.setCell ?_ (by first | omega | (simp; done) | (simp; omega)) _)))
    · obtain ⟨iR, hi0, hz0, hz1, hz2⟩ := info_parts info_ints
      obtain ⟨iI, hi1, hy0, hy1, hy2⟩ := info_parts info_int64
      have t1 : (24 : TypeId) ≠ 2 := by decide
      have t2 : (24 : TypeId) ≠ 35 := by decide
      have t3 : (2 : TypeId) ≠ 35 := by decide
      have hre : (!(restP s).toList.isEmpty) = false := by rw [← rest_ok, hok]; rfl
      obtain ⟨l0, hl0⟩ : ∃ l0, (linesP s ++ [restP s])[0]? = some l0 := ⟨_, List.getElem?_eq_getElem (by simp)⟩
      obtain ⟨HOK', HRS'⟩ := rc_prog hok h8 hl0
      have HOK := Lib.hid HOK'; clear HOK'
      have HRS := Lib.hid HRS'; clear HRS'
      have hls := lnAt_size s s.size
      have HLS : Hid (∀ l ∈ linesP s, l.size ≤ 1000000000) := Lib.hid (fun l h => Nat.le_trans (hls l h) hl)
      clear hls
      go_enter Tryd.func10, Tryd.ntmps10
      go_wp2_with (fail)
      refine (split_post s m _ hl HM.out).mono ?_; rintro e w2 ⟨b, rfl, hcs, b2⟩
      have hb2 := hb1.trans (b2.mono (by simp))
      have kz2 := kz.below b2 (by simp)
      have hz2' := hb2.size
      have hkzl := kz2.lt
      have hcl : w2.cell? ⟨b, (linesP s).length, none⟩ = some (.string (restP s)) := by
        have := hcs (linesP s).length (restP s) (by simp)
        rwa [Nat.zero_add] at this
      have hc0 : w2.cell? ⟨b, 0, none⟩ = some (.string l0) := hcs 0 l0 hl0
      have HLC : Hid (∀ k l, (linesP s)[k]? = some l → w2.cell? ⟨b, 0 + k, none⟩ = some (.string l)) := Lib.hid (fun k l hk => hcs k l (by rw [List.getElem?_append_left (List.getElem?_eq_some_iff.1 hk).1]; exact hk))
      clear hcs hl0
      generalize linesP s = ls at *
      generalize restP s = rs at *
      have w1 : IntKind.i64.wrap ((ls.length : Int) + 1 - 1) = (ls.length : Int) := by rw [IntWalk.i64_in _ ⟨by omega, by omega⟩]; omega
      have d8 : decide ((8 : Int) < (ls.length : Int)) = false := decide_eq_false (by omega)
      have d0 : (0 : Int) ≤ (ls.length : Int) := by omega
      go_wp2_with (fail)
      go_loopw [35] (fun iv wr => ∃ (k : Nat) (A' : Option Addr) (c' : Nat) (cs : List Value), k ≤ ls.length ∧ iv = .int .i64 k ∧ Blk wr w2.heap.size 24 #[.int .i64 (l0.size : Int), .slice A' k c'] ∧ OwnC wr w2.heap.size wr.heap.size 35 1 A' k c' cs ∧ CellsII wr w2.heap.size wr.heap.size cs ((ls.take k).map rowOfI) ∧ Below w2.heap.size w2 wr) (fun iv _ => ls.length - (intOf iv).toNat)
      case atStart =>
        exact ⟨0, none, 0, [], Nat.zero_le _, rfl, Blk.new _ _ _, OwnC.nil _ _ _ _ _, ⟨rfl, fun k xs hx => by simp at hx, fun i j v v' g hi' => by simp at hi'⟩, (Below.refl _ _).alloc (Nat.le_refl _) _⟩
      case round =>
        clear hc0 hcl
        obtain ⟨k, A', c', cs, hk, rfl, ko, ho, hci, hb⟩ := hrel
        have hzs := hb.size
        have hzo := ko.lt
        by_cases hlt : k < ls.length
        · obtain ⟨l, hx⟩ : ∃ l, ls[k]? = some l := ⟨_, List.getElem?_eq_getElem hlt⟩
          have hc := HLC.out k l hx
          rw [Nat.zero_add] at hc
          have hll := HLS.out l (List.mem_of_getElem? hx)
          have HX := Lib.hid hx; clear hx
          have HC := Lib.hid hc
          replace hc := cells_below hb _ _ hc
          have j1 : (0 : Int) ≤ (k : Int) := by omega
          have j2 : (k : Int) < (ls.length : Int) := by omega
          obtain ⟨W1, rfl⟩ : ∃ W1, W1 = wr := ⟨wr, rfl⟩
          go_wp2_with (fail)
          go_loopw [9, 42] (fun rv jv ws => ∃ (j : Nat) (A3 : Option Addr) (c3 : Nat), j ≤ l.size ∧ jv = .int .i64 (j : Int) ∧ rv = .slice A3 ((rowOfI l).take j).length c3 ∧ OwnI ws W1.heap.size ws.heap.size A3 c3 ((rowOfI l).take j) ∧ Below W1.heap.size W1 ws) (fun _ jv _ => l.size - (intOf jv).toNat)
          case atStart =>
            exact ⟨0, some ⟨W1.heap.size, 0, none⟩, 0, Nat.zero_le _, rfl, rfl, (OwnC.lit _ 1 #[] (Nat.le_refl _) (Nat.zero_le _) rfl).mono (Nat.le_refl _) (by simp), by (repeat (first | exact Below.refl _ _ | assumption | apply Below.drew | apply below_drewN | (refine Below.alloc ?_ (by first | omega | (simp; done) | (simp; omega)) _) | (refine Below.setCell ?_ (by first | omega | (simp; done) | (simp; omega)) _)))⟩
          case round =>
            clear hc
            obtain ⟨j, A3, c3, hj, rfl, rfl, ho3, hb3⟩ := hrel
            have hz3 := hb3.size
            have hbb : Below w2.heap.size w2 wr := hb.trans (hb3.mono hzs)
            have ko3 := ko.below hb3 hzo
            have hc3 := cells_below hbb _ _ HC.out
            by_cases hjl : j < l.size
            · have HR := Lib.hid (rowOfI_at l j hjl)
              have m1 : (0 : Int) ≤ (j : Int) := by omega
              have m2 : (j : Int) < (l.size : Int) := by omega
              have hL8 : ((rowOfI l).take j).length ≤ 1000000000 := by rw [List.length_take, rowOfI_length]; omega
              have hu := (l[j]'hjl).toNat_lt
              have w48 : IntKind.i64.wrap (((l[j]'hjl).toNat : Int) - 48) = digI (l[j]'hjl) := IntWalk.i64_in _ ⟨by omega, by omega⟩
              have w8 : IntKind.i64.wrap ((l[j]'hjl).toNat : Int) = ((l[j]'hjl).toNat : Int) := IntWalk.i64_in _ ⟨by omega, by omega⟩
              obtain ⟨x, hx⟩ : ∃ x, digI (l[j]'hjl) = x := ⟨_, rfl⟩
              rw [hx] at HR w48
              clear hx
              generalize (rowOfI l).take j = L at ho3 HR hL8 ⊢
              go_wp2_with (at_builtin; refine wpList_append1 wr [.int .i64 x] _ rfl (.tmp 45) (.tmp 51) _ rfl 2 iI _ 1 8 Tryd.underlying35 hi1 hy0 hy1 hy2 rfl (by decide) rfl ho3 hz3 1 rfl rfl (by simp [Value.oneCell']) (by omega) (by decide) ?_; intro A4 c4 w4 ho4 hg4 hb4 hz4)
              go_roundw
              case rel =>
                refine ⟨j + 1, A4, c4, by omega, by go_num, by rw [HR.out]; simp, ?_, hb3.trans hb4⟩
                rw [HR.out]
                show OwnC _ _ _ _ _ _ _ _ _
                rw [List.map_append, List.length_append]
                exact ho4
              case measure => first | (simp [intOf]; done) | (simp [intOf]; omega)
            · obtain rfl : j = l.size := by omega
              rw [take_all (by rw [rowOfI_length]; exact Nat.le_refl _)] at ho3 ⊢
              have hL8 : (rowOfI l).length ≤ 1000000000 := by rw [rowOfI_length]; omega
              have HS : Hid ((ls.take (k + 1)).map rowOfI = (ls.take k).map rowOfI ++ [rowOfI l]) := Lib.hid (by rw [take_snoc HX.out, List.map_append]; rfl)
              generalize rowOfI l = L at ho3 hL8 HS ⊢
              have ho' := (ho.below hb3 (Nat.le_refl _)).mono (Nat.le_refl _) hz3
              have ci3 : CellsII wr w2.heap.size W1.heap.size cs ((ls.take k).map rowOfI) := hci.keep fun q _ h2 _ => hb3.block q h2
              obtain ⟨p0, p1⟩ := ko3.c2
              have hlw : w2.heap.size ≤ wr.heap.size := by omega
              have hk8 : k ≤ 1000000000000 := by omega
              go_wp2_with (at_builtin; refine wpList_append1 wr [.slice A3 L.length c3] _ rfl (.tmp 55) (.tmp 57) _ rfl 35 iR _ 1 24 Tryd.underlying22 hi0 hz0 hz1 hz2 rfl (by decide) rfl ho' hlw 1 rfl rfl (by simp [Value.oneCell']) hk8 (by decide) ?_; intro A5 c5 w5 ho5 hg5 hb5 hz5; have ko5 := (ko3.alloc (.cells #[.slice A3 L.length c3] 35)).grownT (ho'.alloc (.cells #[.slice A3 L.length c3] 35)) t2 hg5; obtain ⟨s0, s1⟩ := ko5.c2; have f1 := ko5.frozen 1)
              have ko5 := (ko3.alloc (.cells #[.slice A3 L.length c3] 35)).grownT (ho'.alloc (.cells #[.slice A3 L.length c3] 35)) t2 hg5
              have or5 := (ho3.alloc (.cells #[.slice A3 L.length c3] 35)).grownT (ho'.alloc (.cells #[.slice A3 L.length c3] 35)) t3 hg5
              have ci5 := (ci3.keep (w' := wr.alloc (.cells #[.slice A3 L.length c3] 35)) fun q _ _ h3 => Below.heap_alloc wr _ q h3).grownT (ho'.alloc (.cells #[.slice A3 L.length c3] 35)) t3 hg5
              have ci6 : CellsII w5 w2.heap.size w5.heap.size (cs ++ [.slice A3 L.length c3]) ((ls.take k).map rowOfI ++ [L]) := ci5.snoc (or5.mono (Nat.le_refl _) (by omega)) hzs (by omega)
              have hb6 : Below w2.heap.size w2 w5 := hbb.trans hb5
              refine ⟨⟨k + 1, A5, c5, cs ++ [.slice A3 L.length c3], by omega, by go_num, ko5.set21 _, (ho5.farT ko5 t2 1 _).mono (Nat.le_refl _) (by simp), ?_, by (repeat (first | exact Below.refl _ _ | assumption | apply Below.drew | apply below_drewN | (refine Below.alloc ?_ (by first | omega | (simp; done) | (simp; omega)) _) | (refine Below.setCell ?_ (by first | omega | (simp; done) | (simp; omega)) _)))⟩, by simp [intOf]; omega⟩
              rw [HS.out]
              exact (ci6.farT ko5 t1 1 _).mono (Nat.le_refl _) (by simp)
        · have hk' : k = ls.length := by omega
          subst hk'
          rw [take_all (Nat.le_refl _)] at hci
          have hlen : (ls.map rowOfI).length = ls.length := List.length_map ..
          generalize ls.map rowOfI = xss at hci hlen HOK HRS
          have oii : OwnII wr w2.heap.size wr.heap.size A' xss.length c' xss := ⟨cs, by rw [hlen]; exact ho, hci⟩
          obtain ⟨p0, p1⟩ := ko.c2
          rw [← hlen] at p1
          have kzr := kz2.below hb hkzl
          have hxl : xss.length ≤ 8 := by omega
          have HLN := Lib.hid hlen; clear hlen
          have hbw : Below w.heap.size w wr := hb2.trans (hb.mono hz2')
          have hz0w := hbw.size
          cases hcv : coloursB (l0.size : Int) xss
          · have HF : Hid (rcRows s = [] ∧ rcCols s = 0 ∧ rcOk s = false) := Lib.hid (by
              have e : rcOk s = false := by rw [HOK.out, hcv]
              rw [rcRows, rcCols, e]; exact ⟨rfl, rfl, rfl⟩)
            go_wp2_with (fail)
            refine (impl_ValidColours (l0.size : Int) xss A' c' _ oii.ints2 (by omega)).mono ?_; rintro e w3 ⟨rfl, b3⟩
            rw [hcv]
            have kz3 := kzr.below b3 kzr.lt
            obtain ⟨r0, r1⟩ := kz3.c2
            have g0 := kz3.frozen 0
            have g1 := kz3.frozen 1
            have hb3 : Below w.heap.size w w3 := hbw.trans (b3.mono hz0w)
            go_wp2_with (fail)
            refine bodyPost_ret (v := .tuple #[.agg #[.int .i64 (rcCols s), .slice none (rcRows s).length 0], .bool (rcOk s)]) (by rw [HF.out.1, HF.out.2.1, HF.out.2.2]; simp [results, Tryd.results10, go_sem, r0, r1]) rfl ⟨none, 0, rfl, ?_, ?_⟩
            · rw [HF.out.1]
              exact ⟨[], OwnC.nil _ _ _ _ _, ⟨rfl, fun k xs hx => by simp at hx, fun i j v v' g hi' => by simp at hi'⟩⟩
            · (repeat (first | exact Below.refl _ _ | assumption | apply Below.drew | apply below_drewN | (refine Below.alloc ?_ (by first | omega | (simp; done) | (simp; omega)) _) | (refine Below.setCell ?_ (by first | omega | (simp; done) | (simp; omega)) _)))
          · have HF : Hid (rcRows s = xss ∧ rcCols s = (l0.size : Int) ∧ rcOk s = true) := Lib.hid (by
              have e : rcOk s = true := by rw [HOK.out, hcv]
              exact HRS.out e)
            go_wp2_with (fail)
            refine (impl_ValidColours (l0.size : Int) xss A' c' _ oii.ints2 (by omega)).mono ?_; rintro e w3 ⟨rfl, b3⟩
            rw [hcv]
            have kz3 := kzr.below b3 kzr.lt
            have ko3 := ko.below b3 hzo
            have ho3 := ho.below b3 (Nat.le_refl _)
            have hc3 : CellsII w3 w2.heap.size wr.heap.size cs xss := hci.keep fun q _ h2 _ => b3.block q h2
            obtain ⟨r0, r1⟩ := kz3.c2
            have g0 := kz3.frozen 0
            have g1 := kz3.frozen 1
            obtain ⟨u0, u1⟩ := ko3.c2
            rw [← HLN.out] at u1
            have hb3 : Below w.heap.size w w3 := hbw.trans (b3.mono hz0w)
            have hz3 := b3.size
            go_wp2_with (fail)
            refine bodyPost_ret (v := .tuple #[.agg #[.int .i64 (rcCols s), .slice A' (rcRows s).length c'], .bool (rcOk s)]) (by rw [HF.out.1, HF.out.2.1, HF.out.2.2]; simp [results, Tryd.results10, go_sem, r0, r1]) rfl ⟨A', c', rfl, ?_, ?_⟩
            · rw [HF.out.1]
              have k1 := kz3.set20 (.int .i64 (l0.size : Int))
              show OwnII _ _ _ _ xss.length _ xss
              rw [← HLN.out] at ho3
              exact ⟨cs, ((ho3.farT kz3 t2 0 _).farT k1 t2 1 _).mono (by omega) (by simp; omega), ((hc3.farT kz3 t1 0 _).farT k1 t1 1 _).mono (by omega) (by simp; omega)⟩
            · (repeat (first | exact Below.refl _ _ | assumption | apply Below.drew | apply below_drewN | (refine Below.alloc ?_ (by first | omega | (simp; done) | (simp; omega)) _) | (refine Below.setCell ?_ (by first | omega | (simp; done) | (simp; omega)) _)))

  · have HF : Hid (rcRows s = [] ∧ rcCols s = 0 ∧ rcOk s = false) := Lib.hid (by
      have e : rcOk s = false := by
        have : inR (linesP s).length 1 8 = false := by
          cases h : inR (linesP s).length 1 8
          · rfl
          · have := inR_iff.1 h; omega
        rw [rcOk, this, Bool.and_false]; rfl
      rw [rcRows, rcCols, e]; exact ⟨rfl, rfl, rfl⟩)
    have hL := HLEN.out
    go_enter Tryd.func10, Tryd.ntmps10
    go_wp2_with (fail)
    refine (split_post s m _ hl HM.out).mono ?_; rintro e w2 ⟨g, rfl, _, b2⟩
    have hb2 := hb1.trans (b2.mono (by simp))
    generalize (linesP s).length = L at *
    have w1 : IntKind.i64.wrap ((L : Int) + 1 - 1) = (L : Int) := by rw [IntWalk.i64_in _ ⟨by omega, by omega⟩]; omega
    have d8 : decide ((8 : Int) < (L : Int)) = true := decide_eq_true (by omega)
    have kz2 := kz.below b2 (by simp)
    obtain ⟨r0, r1⟩ := kz2.c2
    have g0 := kz2.frozen 0
    have g1 := kz2.frozen 1
    go_wp2_with (fail)
    refine bodyPost_ret (v := .tuple #[.agg #[.int .i64 (rcCols s), .slice none (rcRows s).length 0], .bool (rcOk s)]) (by rw [HF.out.1, HF.out.2.1, HF.out.2.2]; simp [results, Tryd.results10, go_sem, r0, r1]) rfl ⟨none, 0, rfl, ?_, ?_⟩
    · rw [HF.out.1]
      exact ⟨[], OwnC.nil _ _ _ _ _, ⟨rfl, fun k xs hx => by simp at hx, fun i j v v' g hi' => by simp at hi'⟩⟩
    · (repeat (first | exact Below.refl _ _ | assumption | apply Below.drew | apply below_drewN | (refine Below.alloc ?_ (by first | omega | (simp; done) | (simp; omega)) _) | (refine Below.setCell ?_ (by first | omega | (simp; done) | (simp; omega)) _)))

end Go.Proofs.YtcgbogofmdjddaaDoor

/- ReadColours: what both functions return. -/
namespace Go.Proofs.YtcgbogofmdjddaaDoor
open Go Go.RowKit

/-- The library's variable that strings.Split looks at holds some number. -/
def CellAt (w : World) (m : Int) : Prop := w.cell? SK_cell = some (.int .i64 m)
theorem CellAt.below {w w' : World} {m : Int} (h : CellAt w m) (hb : Below w.heap.size w w') : CellAt w' m := cells_below hb _ _ h
def rcX (s : ByteArray) : ColX := ⟨rcCols s, rcRows s⟩
theorem rcX_size (s : ByteArray) : (rcX s).xs.length ≤ 8 ∧ cntII (rcX s).xs ≤ 64 := by
  refine ⟨rcRows_length s, ?_⟩
  show cntII (rcRows s) ≤ 64
  unfold rcRows
  split
  · rename_i h
    unfold rcOk at h
    simp only [Bool.and_eq_true] at h
    have hv := h.2
    unfold coloursB at hv
    simp only [Bool.and_eq_true, List.all_eq_true] at hv
    have h1 := inR_iff.1 hv.1.1
    have h2 := inR_iff.1 hv.1.2
    have h3 : ∀ r ∈ rcS s, r.length ≤ 8 := by
      intro r hr
      have := hv.2 r hr
      unfold rowOfB at this
      simp only [Bool.and_eq_true, decide_eq_true_eq] at this
      omega
    have h4 := cntII_le h3
    omega
  · decide

theorem impl_ReadColoursX (s : ByteArray) (m : Int) (w : World) (hl : s.size ≤ 1000000000) (hm : CellAt w m) :
    Calls Tryd.prog 10 #[.string s] w fun e w' => ∃ A' c', e = .returned (.tuple #[.agg #[.int .i64 (rcX s).n, .slice A' (rcX s).xs.length c'], .bool (rcOk s)]) ∧ OwnII w' w.heap.size w'.heap.size A' (rcX s).xs.length c' (rcX s).xs ∧ Below w.heap.size w w' := impl_ReadColours s m w hl hm
theorem spec_ReadColoursX (s : ByteArray) (w : World) (hl : s.size ≤ 1000000000) :
    Calls Tryd.prog 9 #[.string s] w fun e w' => ∃ A' c', e = .returned (.tuple #[.agg #[.int .i64 (rcX s).n, .slice A' (rcX s).xs.length c'], .bool (rcOk s)]) ∧ OwnII w' w.heap.size w'.heap.size A' (rcX s).xs.length c' (rcX s).xs ∧ Below w.heap.size w w' := spec_ReadColours s w hl

end Go.Proofs.YtcgbogofmdjddaaDoor
