/- Steps of the proof, joined from several texts: XB XD XE PO XF XG. -/
import Derived.Test.YtnjgmhdmjaijgaaGreatDoorZ8
import Derived.Lib.AppendZerosOnto
import Derived.Lib.AppendZeros
import Derived.Test.YtnjgmhdmjaijgaaGreatDoorZ1
import Derived.Deep.RegionHeld3

/- Charts: ColumnsAfter, StacksOf. -/
namespace Go.Proofs.YtnjgmhdmjaijgaaGreatDoor
open Go.RowKit

set_option maxHeartbeats 1000000 in
theorem impl_ColumnsAfter (n : Int) (rs : List RowD) (A : Option Addr) (c : Nat) (w : World) (h : RowsR w A rs) (hl : rs.length ≤ 9223372036854775807) :
    Calls Tryz.prog 14 #[.agg #[.int .i64 n, .slice A rs.length c]] w fun e w' => ∃ A' c', e = .returned (.tuple #[.slice A' (colsP n rs).length c', .int .i64 (validCode n rs)]) ∧ OwnI w' w.heap.size w'.heap.size A' c' (colsP n rs) ∧ Below w.heap.size w w' := by
  have hb1 : Below w.heap.size w (w.alloc (.cells #[.int .i64 n, .slice A rs.length c] 24)) := by (repeat (first | exact Below.refl _ _ | assumption | apply Below.drew | apply below_drewN | (refine Below.alloc ?_ (by first | omega | (simp; done) | (simp; omega)) _) | (refine Below.setCell ?_ (by first | omega | (simp; done) | (simp; omega)) _)))
  have kb := Blk.new w 24 #[.int .i64 n, .slice A rs.length c]
  obtain ⟨i0, hi0, hz0, hz1, hz2⟩ := info_parts info_int64
  cases hv : chartB n rs
  · have HF := Lib.hid (colsP_bad hv)
    go_enter Tryz.func14, Tryz.ntmps14
    go_wp2_with (fail)
    refine (impl_allStacks n rs A c _ (h.below hb1) hl).mono ?_; rintro e w2 ⟨A', c', rfl, o2, b2⟩
    have hb2 : Below w.heap.size w w2 := hb1.trans (b2.mono (by simp))
    rw [hv]
    go_wp2_with (fail)
    go_ret2
    rw [HF.out.2.1, HF.out.2.2]
    exact ⟨none, 0, rfl, OwnC.nil _ _ _ _ _, hb2⟩
  · have HF := Lib.hid (colsP_good hv)
    have h8 := (chartStacks_size n rs).1
    go_enter Tryz.func14, Tryz.ntmps14
    go_wp2_with (fail)
    refine (impl_allStacks n rs A c _ (h.below hb1) hl).mono ?_; rintro e w2 ⟨A', c', rfl, o2, b2⟩
    have hb2 : Below w.heap.size w w2 := hb1.trans (b2.mono (by simp))
    have z2 := hb2.size
    rw [hv]
    clear hv b2
    generalize chartStacks n rs = xss at o2 HF h8 ⊢
    have HI := Lib.hid o2.ints2
    clear o2
    go_wp2_with (fail)
    go_loopw [6, 19] (fun ov iv wr => ∃ (k : Nat) (A3 : Option Addr) (c3 : Nat), k ≤ xss.length ∧ iv = .int .i64 k ∧ ov = .slice A3 k c3 ∧ OwnC wr w2.heap.size wr.heap.size 2 1 A3 k c3 (((xss.take k).map fun s => (s.length : Int)).map (Value.int .i64)) ∧ Below w2.heap.size w2 wr) (fun _ iv _ => xss.length - (intOf iv).toNat)
    case atStart => exact ⟨0, some ⟨w2.heap.size, 0, none⟩, 0, Nat.zero_le _, rfl, rfl, (OwnC.lit _ 1 #[] (Nat.le_refl _) (Nat.zero_le _) rfl).mono (Nat.le_refl _) (by simp), by (repeat (first | exact Below.refl _ _ | assumption | apply Below.drew | apply below_drewN | (refine Below.alloc ?_ (by first | omega | (simp; done) | (simp; omega)) _) | (refine Below.setCell ?_ (by first | omega | (simp; done) | (simp; omega)) _)))⟩
    case round =>
      obtain ⟨k, A3, c3, hk, rfl, rfl, ho, hb⟩ := hrel
      have hzs := hb.size
      by_cases hlt : k < xss.length
      · obtain ⟨b, off, A4, c4, xs, rfl, hx, hc, hi, hxl⟩ := (HI.out.below hb) k hlt
        have HX : Hid ((((xss.take (k + 1)).map fun s => (s.length : Int)).map (Value.int .i64)) = (((xss.take k).map fun s => (s.length : Int)).map (Value.int .i64)) ++ [.int .i64 xs.length]) := Lib.hid (by rw [take_snoc hx]; simp)
        clear hx
        go_wp2_with (at_builtin; refine wpList_append1 wr [.int .i64 xs.length] _ rfl (.tmp 23) (.tmp 26) _ rfl 2 i0 _ 1 8 Tryz.underlying34 hi0 hz0 hz1 hz2 rfl (by decide) rfl ho hzs 1 rfl rfl (by simp [Value.oneCell']) (by omega) (by decide) ?_; intro A2 c2 w3 ho2 hg2 hb3 hz2')
        go_roundw
        case rel => exact ⟨k + 1, A2, c2, by omega, by go_num, rfl, by rw [HX.out]; exact ho2, hb.trans hb3⟩
        case measure => simp [intOf]; omega
      · go_wp2_with (fail)
        go_ret2
        obtain rfl : k = xss.length := by omega
        rw [take_all (Nat.le_refl _)] at ho
        rw [HF.out.1, HF.out.2]
        refine ⟨A3, c3, by rw [List.length_map]; rfl, ?_, hb2.trans (hb.mono z2)⟩
        show OwnC _ _ _ _ _ _ _ _ _
        rw [List.length_map]
        exact ho.mono z2 (Nat.le_refl _)

set_option maxHeartbeats 1000000 in
theorem impl_StacksOf (n : Int) (rs : List RowD) (A : Option Addr) (c : Nat) (w : World) (h : RowsR w A rs) (hl : rs.length ≤ 9223372036854775807) :
    Calls Tryz.prog 15 #[.agg #[.int .i64 n, .slice A rs.length c]] w fun e w' => ∃ A' c', e = .returned (.tuple #[.slice A' (chartStacks n rs).length c', .int .i64 (validCode n rs)]) ∧ OwnII w' w.heap.size w'.heap.size A' (chartStacks n rs).length c' (chartStacks n rs) ∧ Below w.heap.size w w' := by
  have hb1 : Below w.heap.size w (w.alloc (.cells #[.int .i64 n, .slice A rs.length c] 24)) := by (repeat (first | exact Below.refl _ _ | assumption | apply Below.drew | apply below_drewN | (refine Below.alloc ?_ (by first | omega | (simp; done) | (simp; omega)) _) | (refine Below.setCell ?_ (by first | omega | (simp; done) | (simp; omega)) _)))
  cases hv : chartB n rs
  · have HF := Lib.hid (colsP_bad hv)
    go_enter Tryz.func15, Tryz.ntmps15
    go_wp2_with (fail)
    refine (impl_allStacks n rs A c _ (h.below hb1) hl).mono ?_; rintro e w2 ⟨A', c', rfl, o2, b2⟩
    have hb2 : Below w.heap.size w w2 := hb1.trans (b2.mono (by simp))
    rw [hv]
    go_wp2_with (fail)
    go_ret2
    rw [HF.out.1, HF.out.2.2]
    exact ⟨none, 0, rfl, ⟨[], OwnC.nil _ _ _ _ _, ⟨rfl, fun k xs hx => by simp at hx, fun i j v v' g hi' => by simp at hi'⟩⟩, hb2⟩
  · have HF := Lib.hid (colsP_good hv)
    go_enter Tryz.func15, Tryz.ntmps15
    go_wp2_with (fail)
    refine (impl_allStacks n rs A c _ (h.below hb1) hl).mono ?_; rintro e w2 ⟨A', c', rfl, o2, b2⟩
    have hb2 : Below w.heap.size w w2 := hb1.trans (b2.mono (by simp))
    rw [hv]
    go_wp2_with (fail)
    go_ret2
    rw [HF.out.2]
    exact ⟨A', c', rfl, o2.mono (by simp) (Nat.le_refl _), hb2⟩

end Go.Proofs.YtnjgmhdmjaijgaaGreatDoor

/- Charts: slices.Grow, slices.Concat, copies of rows. -/
namespace Go.Proofs.YtnjgmhdmjaijgaaGreatDoor
open Go.RowKit

/-- The cells at an address, wherever they lie. -/
def CellsAt (w : World) (A : Option Addr) (cs : List Value) : Prop := ∀ (j : Nat) (u : Value), cs[j]? = some u → ∃ b off, A = some ⟨b, off, none⟩ ∧ w.cell? ⟨b, off + j, none⟩ = some u
theorem CellsAt.of_cells {w w' : World} {A : Option Addr} {cs : List Value} (h : CellsAt w A cs) (hk : ∀ a v, w.cell? a = some v → w'.cell? a = some v) : CellsAt w' A cs :=
  fun j u hu => by obtain ⟨b, off, hA, hc⟩ := h j u hu; exact ⟨b, off, hA, hk _ _ hc⟩
theorem CellsAt.below {w w' : World} {A : Option Addr} {cs : List Value} (h : CellsAt w A cs) (hb : Below w.heap.size w w') : CellsAt w' A cs := h.of_cells (cells_below hb)
theorem OwnC.cellsAt {w : World} {lo hi : Nat} {e : TypeId} {sz : Nat} {A : Option Addr} {n c : Nat} {cs : List Value} (h : OwnC w lo hi e sz A n c cs) : CellsAt w A cs := by
  intro j u hu
  have hj := (List.getElem?_eq_some_iff.1 hu).1
  obtain ⟨g, hA, _, _, hc, _⟩ := h.cell hj
  refine ⟨g, 0, hA, ?_⟩
  rw [Nat.zero_add, hc, ← hu, List.getElem?_eq_getElem hj]
structure PartD where
  n : Nat
  cs : List Value
def partsN : List PartD → Nat
  | [] => 0
  | p :: r => p.n + partsN r
def partsC : List PartD → List Value
  | [] => []
  | p :: r => p.cs ++ partsC r
theorem partsN_append (a b : List PartD) : partsN (a ++ b) = partsN a + partsN b := by
  induction a with
  | nil => simp [partsN]
  | cons x r ih => simp [partsN, ih]; omega
theorem partsC_append (a b : List PartD) : partsC (a ++ b) = partsC a ++ partsC b := by
  induction a with
  | nil => simp [partsC]
  | cons x r ih => simp [partsC, ih]
theorem partsN_snoc {ps : List PartD} {k : Nat} {p : PartD} (h : ps[k]? = some p) : partsN (ps.take (k + 1)) = partsN (ps.take k) + p.n := by
  rw [take_snoc h, partsN_append]; simp [partsN]
theorem partsC_snoc {ps : List PartD} {k : Nat} {p : PartD} (h : ps[k]? = some p) : partsC (ps.take (k + 1)) = partsC (ps.take k) ++ p.cs := by
  rw [take_snoc h, partsC_append]; simp [partsC]
theorem partsN_take_le (ps : List PartD) (k : Nat) : partsN (ps.take k) ≤ partsN ps := by
  have := partsN_append (ps.take k) (ps.drop k)
  rw [List.take_append_drop] at this
  omega
theorem partsN_at {ps : List PartD} {k : Nat} {p : PartD} (h : ps[k]? = some p) : partsN (ps.take k) + p.n ≤ partsN ps := by
  rw [← partsN_snoc h]; exact partsN_take_le _ _
/-- A slice of slices, whose cells are known. -/
def SlicesAt (w : World) (A : Option Addr) (sz : Nat) (ps : List PartD) : Prop :=
  ∀ k, k < ps.length → ∃ b off A' c' p, A = some ⟨b, off, none⟩ ∧ ps[k]? = some p ∧ p.cs.length = p.n * sz ∧ (∀ u ∈ p.cs, u.oneCell' = true) ∧ w.cell? ⟨b, off + k, none⟩ = some (.slice A' p.n c') ∧ CellsAt w A' p.cs
theorem SlicesAt.of_cells {w w' : World} {A : Option Addr} {sz : Nat} {ps : List PartD} (h : SlicesAt w A sz ps) (hk : ∀ a v, w.cell? a = some v → w'.cell? a = some v) : SlicesAt w' A sz ps :=
  fun k hk' => by
    obtain ⟨b, off, A', c', p, hA, hx, hn, h1, hc, hi⟩ := h k hk'
    exact ⟨b, off, A', c', p, hA, hx, hn, h1, hk _ _ hc, hi.of_cells hk⟩
theorem SlicesAt.below {w w' : World} {A : Option Addr} {sz : Nat} {ps : List PartD} (h : SlicesAt w A sz ps) (hb : Below w.heap.size w w') : SlicesAt w' A sz ps := h.of_cells (cells_below hb)
def partOf (xs : List Int) : PartD := ⟨xs.length, xs.map (Value.int .i64)⟩
theorem partsN_of (xss : List (List Int)) : partsN (xss.map partOf) = cntII xss := by
  induction xss with
  | nil => rfl
  | cons x r ih => simp [partsN, cntII, partOf, ih]
theorem partsC_of (xss : List (List Int)) : partsC (xss.map partOf) = xss.flatten.map (Value.int .i64) := by
  induction xss with
  | nil => rfl
  | cons x r ih => simp [partsC, partOf, ih]
theorem length_flatten (xss : List (List Int)) : xss.flatten.length = cntII xss := by
  induction xss with
  | nil => rfl
  | cons x r ih => simp [cntII, ih]
theorem Ints2.slices {w : World} {A : Option Addr} {xss : List (List Int)} (h : Ints2 w A xss) : SlicesAt w A 1 (xss.map partOf) := by
  intro k hk
  obtain ⟨b, off, A', c', xs, hA, hx, hc, hi, _⟩ := h k (by simpa using hk)
  exact ⟨b, off, A', c', partOf xs, hA, by rw [List.getElem?_map, hx]; rfl, by simp [partOf], ints_one _, hc, hi.news⟩
theorem zeroCells_size (z : Array Value) (k : Nat) : (Builtin.zeroCells z k).size = k * z.size := by simp [Builtin.zeroCells]

set_option maxHeartbeats 2000000 in
set_option maxRecDepth 100000 in
theorem slices_Grow_impl_Row_impl_Row (n : Nat) (w : World) (hn : n ≤ 1000000) :
    Calls Tryz.prog 67 #[.slice none 0 0, .int .i64 n] w fun e w' => ∃ A' c', e = .returned (.slice A' 0 c') ∧ OwnC w' w.heap.size w'.heap.size 42 3 A' 0 c' [] ∧ Below w.heap.size w w' := by
  obtain ⟨i0, hi0, hz0, hz1, hz2⟩ := info_parts info_Row
  by_cases h0 : n = 0
  · subst h0
    rw [show ((0 : Nat) : Int) = 0 from rfl]
    go_enter Tryz.func67, Tryz.ntmps67
    go_wp2_with (fail)
    go_ret
    exact ⟨none, 0, rfl, OwnC.nil _ _ _ _ _, Below.refl _ _⟩
  · have hpos : 0 < n := by omega
    have hold : (Builtin.firstCells i0.size 0 (.slice none 0 0)).run Tryz.prog w.drew = .ok ([] : List Value).toArray w.drew := run_firstCells_none w.drew i0.size 0 0 0
    have hrz : ∀ ty, (Builtin.append_ #[22, 3] ty #[.slice none 0 0, .int .i64 n]).run Tryz.prog w = .ok (.slice (some ⟨w.heap.size, 0, none⟩) (0 + n) (grownCap w (0 + n) 0 42)) (w.drew.alloc (.cells (([] : List Value).toArray ++ Builtin.zeroCells _ n ++ Builtin.zeroCells _ (grownCap w (0 + n) 0 42 - (0 + n))) 42)) := fun ty =>
      Lib.run_append_grow_zeros w 22 3 ty 42 i0 _ .i64 .i64 Tryz.underlying22 Tryz.underlying3 hi0 hz0 none 0 0 [] hold n hpos (by rw [hz1]; decide) (by omega) (by omega) (by rw [hz2]; omega) (growslice_fits (by omega) (by rw [hz2]; omega))
    have hGn : 0 + n ≤ grownCap w (0 + n) 0 42 := grownCap_ge w _ _ _
    have hGm : grownCap w (0 + n) 0 42 ≤ maxLen := grownCap_le_maxLen w (0 + n) 0 42 (by unfold maxLen; omega)
    simp only [Nat.zero_add] at hrz hGn hGm
    obtain ⟨G, hG⟩ : ∃ G, G = grownCap w n 0 42 := ⟨_, rfl⟩
    rw [← hG] at hrz hGn hGm
    have hG63 : G ≤ 9223372036854775807 := by unfold maxLen at hGm; omega
    clear hG hold
    have HRZ := Lib.hid hrz; clear hrz
    have HGM := Lib.hid hGm; clear hGm
    go_enter Tryz.func67, Tryz.ntmps67
    go_wp2_with (at_builtin; refine Lib.wpList_append_run _ rfl _ _ _ _ rfl _ _ rfl rfl _ _ (HRZ.out _) ?_)
    all_goals go_ret
    all_goals
      refine ⟨_, _, rfl, ⟨⟨rfl, .inr ⟨w.heap.size, G, _, rfl, Nat.le_refl _, heap_alloc_new w.drew _, Nat.zero_le _, HGM.out, ?_, by simp⟩⟩, fun a h => by injection h with h; subst h; simp⟩, ?_⟩
      · simp only [Array.size_append, zeroCells_size, List.size_toArray]
        rw [← Nat.add_mul, Nat.add_sub_cancel' hGn]
        rfl
      · exact ((Below.refl _ _).drew).alloc (Nat.le_refl _) _

set_option maxHeartbeats 2000000 in
set_option maxRecDepth 100000 in
theorem slices_Concat_impl_Row_impl_Row (ps : List PartD) (A : Option Addr) (c : Nat) (w : World) (h : SlicesAt w A 3 ps) (hl : ps.length ≤ 1000000) (hn : partsN ps ≤ 1000000) :
    Calls Tryz.prog 41 #[.slice A ps.length c] w fun e w' => ∃ A' c', e = .returned (.slice A' (partsN ps) c') ∧ OwnC w' w.heap.size w'.heap.size 42 3 A' (partsN ps) c' (partsC ps) ∧ Below w.heap.size w w' := by
  obtain ⟨i0, hi0, hz0, hz1, hz2⟩ := info_parts info_Row
  go_enter Tryz.func41, Tryz.ntmps41
  go_wp2_with (fail)
  go_loop [3, 11] (fun s i => ∃ k : Nat, k ≤ ps.length ∧ i = .int .i64 k ∧ s = .int .i64 (partsN (ps.take k))) (fun _ i => ps.length - (intOf i).toNat)
  case atStart => exact ⟨0, Nat.zero_le _, rfl, rfl⟩
  case round =>
    obtain ⟨k, hk, rfl, rfl⟩ := hrel
    by_cases hlt : k < ps.length
    · obtain ⟨b, off, A', c', p, rfl, hx, hpn, _, hc, hi⟩ := h k hlt
      have hle := partsN_at hx
      have HS : Hid (partsN (ps.take (k + 1)) = partsN (ps.take k) + p.n) := Lib.hid (partsN_snoc hx)
      clear hx
      go_wp2_with (fail)
      go_round
      case rel => exact ⟨k + 1, by omega, by go_num, by rw [HS.out]; go_num⟩
      case measure => simp [intOf]; omega
    · obtain rfl : k = ps.length := by omega
      rw [take_all (Nat.le_refl _)]
      go_wp2_with (fail)
      refine (slices_Grow_impl_Row_impl_Row (partsN ps) _ hn).mono ?_; rintro e w2 ⟨A2, c2, rfl, o2, b2⟩
      go_wp2_with (fail)
      go_loopw [6, 27] (fun ov iv wr => ∃ (k : Nat) (A3 : Option Addr) (c3 : Nat), k ≤ ps.length ∧ iv = .int .i64 k ∧ ov = .slice A3 (partsN (ps.take k)) c3 ∧ OwnC wr w.heap.size wr.heap.size 42 3 A3 (partsN (ps.take k)) c3 (partsC (ps.take k)) ∧ Below w.heap.size w wr) (fun _ iv _ => ps.length - (intOf iv).toNat)
      case atStart => exact ⟨0, A2, c2, Nat.zero_le _, rfl, rfl, o2, b2⟩
      case round =>
        obtain ⟨k, A3, c3, hk, rfl, rfl, ho, hb⟩ := hrel
        have hzs := hb.size
        by_cases hlt : k < ps.length
        · obtain ⟨b, off, A4, c4, p, rfl, hx, hpn, h1, hc, hi⟩ := (h.below hb) k hlt
          have hle := partsN_at hx
          have HN : Hid (partsN (ps.take (k + 1)) = partsN (ps.take k) + p.n) := Lib.hid (partsN_snoc hx)
          have HC : Hid (partsC (ps.take (k + 1)) = partsC (ps.take k) ++ p.cs) := Lib.hid (partsC_snoc hx)
          have HI := Lib.hid hi
          have H1 := Lib.hid h1
          have HP := Lib.hid hpn
          clear hx hi h1 hpn
          generalize partsN (ps.take k) = m at ho hle HN ⊢
          generalize partsC (ps.take k) = L at ho HC
          go_wp2_with (at_builtin; refine wpList_appendC wr rfl (.tmp 31) (.tmp 32) _ rfl 42 i0 _ 3 40 Tryz.underlying22 hi0 hz0 hz1 hz2 rfl (by decide) rfl ho hzs A4 p.n c4 p.cs rfl HP.out HI.out H1.out (by unfold maxLen; omega) (by omega) ?_; intro A5 c5 w5 ho5 hg5 hb5)
          go_roundw
          case rel => exact ⟨k + 1, A5, c5, by omega, by go_num, by rw [HN.out], by rw [HN.out, HC.out]; exact ho5, hb.trans hb5⟩
          case measure => simp [intOf]; omega
        · obtain rfl : k = ps.length := by omega
          rw [take_all (Nat.le_refl _)] at ho ⊢
          go_wp2_with (fail)
          go_ret
          exact ⟨A3, c3, rfl, ho, hb⟩

/-- The rows whose cells these are; their slices are read where they lie. -/
def SrcRows (w : World) (cs : List Value) (rs : List RowD) : Prop :=
  cs.length = rs.length * 3 ∧ (∀ u ∈ cs, u.oneCell' = true) ∧ ∀ (k : Nat) (r : RowD), rs[k]? = some r → ∃ A' c', cs[k * 3]? = some (.int .i64 r.d) ∧ cs[k * 3 + 1]? = some (.int .i64 r.r) ∧ cs[k * 3 + 2]? = some (.slice A' r.s.length c') ∧ Ints w A' r.s ∧ r.s.length ≤ 9223372036854775807
theorem RowsR.src {w : World} {A : Option Addr} {rs : List RowD} (h : RowsR w A rs) : ∃ cs, CellsAt w A cs ∧ SrcRows w cs rs := by
  cases rs with
  | nil => exact ⟨[], fun j u hu => by simp at hu, rfl, fun u hu => by simp at hu, fun k r hr => by simp at hr⟩
  | cons r0 rs =>
    obtain ⟨b, off, hA⟩ : ∃ b off, A = some ⟨b, off, none⟩ := by
      obtain ⟨b, off, _, _, _, hA, _⟩ := h 0 (by simp)
      exact ⟨b, off, hA⟩
    subst hA
    generalize hrs : r0 :: rs = qs at h
    clear hrs r0 rs
    have at3 : ∀ k (hk : k < qs.length), ∃ A' c', w.cell? ⟨b, off + k * 3, none⟩ = some (.int .i64 qs[k].d) ∧ w.cell? ⟨b, off + k * 3 + 1, none⟩ = some (.int .i64 qs[k].r) ∧ w.cell? ⟨b, off + k * 3 + 2, none⟩ = some (.slice A' qs[k].s.length c') ∧ Ints w A' qs[k].s ∧ qs[k].s.length ≤ 9223372036854775807 := by
      intro k hk
      obtain ⟨b', off', A', c', r, hA, hx, h0, h1, h2, hi, hl⟩ := h k hk
      injection hA with hA
      injection hA with hb ho
      subst hb ho
      rw [List.getElem?_eq_getElem hk] at hx
      injection hx with hx
      subst hx
      exact ⟨A', c', h0, h1, h2, hi, hl⟩
    have some_at : ∀ j, j < qs.length * 3 → ∃ v, w.cell? ⟨b, off + j, none⟩ = some v ∧ v.oneCell' = true := by
      intro j hj
      obtain ⟨A', c', h0, h1, h2, _⟩ := at3 (j / 3) (by omega)
      have e : j = j / 3 * 3 ∨ j = j / 3 * 3 + 1 ∨ j = j / 3 * 3 + 2 := by omega
      rcases e with e | e | e
      · exact ⟨_, by rw [e]; exact h0, rfl⟩
      · exact ⟨_, by rw [e]; exact h1, rfl⟩
      · exact ⟨_, by rw [e]; exact h2, rfl⟩
    have hat : ∀ j, j < qs.length * 3 → ((List.range (qs.length * 3)).map fun j => (w.cell? ⟨b, off + j, none⟩).getD (.int .i64 0))[j]? = w.cell? ⟨b, off + j, none⟩ := by
      intro j hj
      obtain ⟨v, hv, _⟩ := some_at j hj
      rw [List.getElem?_map, List.getElem?_range hj]
      simp [hv]
    refine ⟨(List.range (qs.length * 3)).map fun j => (w.cell? ⟨b, off + j, none⟩).getD (.int .i64 0), ?_, by simp, ?_, ?_⟩
    · intro j u hu
      have hj : j < qs.length * 3 := by simpa using (List.getElem?_eq_some_iff.1 hu).1
      exact ⟨b, off, rfl, by rw [← hat j hj]; exact hu⟩
    · intro u hu
      obtain ⟨j, hj⟩ := List.getElem?_of_mem hu
      have hjl : j < qs.length * 3 := by simpa using (List.getElem?_eq_some_iff.1 hj).1
      obtain ⟨v, hv, h1⟩ := some_at j hjl
      rw [hat j hjl, hv] at hj
      injection hj with hj
      subst hj
      exact h1
    · intro k r hr
      have hk : k < qs.length := (List.getElem?_eq_some_iff.1 hr).1
      obtain ⟨A', c', h0, h1, h2, h3, h4⟩ := at3 k hk
      rw [List.getElem?_eq_getElem hk] at hr
      injection hr with hr
      subst hr
      exact ⟨A', c', by rw [hat _ (by omega)]; exact h0, by rw [hat _ (by omega)]; exact h1, by rw [hat _ (by omega)]; exact h2, h3, h4⟩
theorem CellsRows.storeT {w : World} {lo hi : Nat} {cs : List Value} {rs : List RowD} {lo2 hi2 : Nat} {e2 : TypeId} {sz2 : Nat} {g n2 c2 : Nat} {cs2 : List Value}
    (h : CellsRows w lo hi cs rs) (h2 : OwnC w lo2 hi2 e2 sz2 (some ⟨g, 0, none⟩) n2 c2 cs2) (ht : (2 : TypeId) ≠ e2) (j : Nat) (u : Value) : CellsRows (w.setCell ⟨g, j, none⟩ u) lo hi cs rs :=
  h.keepT fun k cur _ _ hk => Below.heap_setCell w ⟨g, j, none⟩ u k (by
    rintro rfl
    rcases h2.form with ⟨hA, _⟩ | ⟨q, cur2, hA, _, _, hh, _⟩
    · cases hA
    · injection hA with hA
      injection hA with hA
      subst hA
      rw [hk] at hh
      injection hh with hh
      injection hh with _ hh
      exact ht hh)

set_option maxRecDepth 10000 in
theorem slices_Clone_rows (A : Option Addr) (n c : Nat) (cs : List Value) (w : World) (h : CellsAt w A cs) (hn : cs.length = n * 3) (h1 : ∀ u ∈ cs, u.oneCell' = true) (hl : n ≤ 1000000) :
    Calls Tryz.prog 68 #[.slice A n c] w fun e w' => ∃ A' c', e = .returned (.slice A' n c') ∧ OwnC w' w.heap.size w'.heap.size 42 3 A' n c' cs ∧ Below w.heap.size w w' := by
  obtain ⟨i0, hi0, hz0, hz1, hz2⟩ := info_parts info_Row
  have qn : ∀ (w : World) (a : Option Addr) (n c n' c' : Nat), (binOp .eql 22 (.slice a n c) (.slice none n' c')).run Tryz.prog w = .ok (.bool a.isNone) w := fun w a n c n' c' => Lib.run_eql_slice_nil w _ _ a n c n' c' Tryz.underlying22
  cases A with
  | none =>
    have hx : cs = [] := by
      cases cs with
      | nil => rfl
      | cons x r => obtain ⟨b, off, h1, _⟩ := h 0 x (by simp); cases h1
    subst hx
    obtain rfl : n = 0 := by simp at hn; omega
    go_enter Tryz.func68, Tryz.ntmps68
    go_wp2_with (fail)
    go_ret
    exact ⟨none, 0, rfl, OwnC.nil _ _ _ _ _, Below.refl _ _⟩
  | some a =>
    have o1 := OwnC.lit (w := w) (lo := w.heap.size) (n := 0) 42 3 #[] (Nat.le_refl _) (Nat.zero_le _) rfl
    have hb1 : Below w.heap.size w (w.alloc (.cells #[] 42)) := by (repeat (first | exact Below.refl _ _ | assumption | apply Below.drew | apply below_drewN | (refine Below.alloc ?_ (by first | omega | (simp; done) | (simp; omega)) _) | (refine Below.setCell ?_ (by first | omega | (simp; done) | (simp; omega)) _)))
    have O1 := Lib.hid o1; clear o1
    have HN := Lib.hid (h.below hb1)
    have HC := Lib.hid hn; clear hn
    have H1 := Lib.hid h1; clear h1
    go_enter Tryz.func68, Tryz.ntmps68
    go_wp2_with (at_builtin; refine wpList_appendC (w.alloc (.cells #[] 42)) rfl (.tmp 5) (.tmp 6) _ rfl 42 i0 _ 3 40 Tryz.underlying22 hi0 hz0 hz1 hz2 rfl (by decide) rfl O1.out (by simp) (some a) n c cs rfl HC.out HN.out H1.out (by unfold maxLen; omega) (by omega) ?_; intro A5 c5 w5 ho5 hg5 hb5)
    go_ret
    refine ⟨A5, c5, by simp, ?_, hb1.trans hb5⟩
    simpa using ho5

set_option maxHeartbeats 2000000 in
set_option maxRecDepth 10000 in
theorem impl_copyRows (rs : List RowD) (A : Option Addr) (c : Nat) (w : World) (h : RowsR w A rs) (hl : rs.length ≤ 1000000) (hs : ∀ r ∈ rs, r.s.length ≤ 1000000) :
    Calls Tryz.prog 42 #[.slice A rs.length c] w fun e w' => ∃ A' c', e = .returned (.slice A' rs.length c') ∧ OwnRows w' w.heap.size w'.heap.size A' rs.length c' rs ∧ Below w.heap.size w w' := by
  have ht : (2 : TypeId) ≠ 42 := by decide
  obtain ⟨ds, hda, hdl, hd1, hds⟩ := h.src
  have HS := Lib.hid hs; clear hs
  have HD := Lib.hid hds; clear hds
  have HL := Lib.hid hdl; clear hdl
  go_enter Tryz.func42, Tryz.ntmps42
  go_wp2_with (fail)
  refine (slices_Clone_rows A rs.length c ds _ hda HL.out hd1 hl).mono ?_; rintro e w2 ⟨A2, c2, rfl, o2, b2⟩
  clear hda hd1
  go_wp2_with (fail)
  go_loopw [9] (fun iv wr => ∃ (k : Nat) (cs : List Value), k ≤ rs.length ∧ iv = .int .i64 k ∧ OwnC wr w.heap.size wr.heap.size 42 3 A2 rs.length c2 cs ∧ CellsRows wr w.heap.size wr.heap.size (cs.take (k * 3)) (rs.take k) ∧ Hid (cs.drop (k * 3) = ds.drop (k * 3)) ∧ Below w.heap.size w wr) (fun iv _ => rs.length - (intOf iv).toNat)
  case atStart => exact ⟨0, ds, Nat.zero_le _, rfl, o2, by simpa using CellsRows.nil, Lib.hid rfl, b2⟩
  case round =>
    obtain ⟨k, cs, hk, rfl, ho, hcr, HR, hb⟩ := hrel
    have hzs := hb.size
    by_cases hlt : k < rs.length
    · have hx : rs[k]? = some rs[k] := List.getElem?_eq_getElem hlt
      obtain ⟨A4, c4, e0, e1, e2, hi, _⟩ := HD.out k _ hx
      have hle := HS.out _ (List.mem_of_getElem? hx)
      generalize rs[k] = q at hx e0 e1 e2 hi hle
      have hcl := ho.len
      have drop_at : ∀ j v, k * 3 ≤ j → ds[j]? = some v → cs[j]? = some v := by
        intro j v hj hv
        have h1 : (cs.drop (k * 3))[j - k * 3]? = (ds.drop (k * 3))[j - k * 3]? := by rw [HR.out]
        rw [List.getElem?_drop, List.getElem?_drop, Nat.add_sub_cancel' hj] at h1
        rw [h1, hv]
      have f0 := drop_at _ _ (Nat.le_refl _) e0
      have f1 := drop_at _ _ (by omega) e1
      have f2 := drop_at _ _ (by omega) e2
      obtain ⟨g, rfl, hg1, hg2, s2, z2⟩ := ho.cell (j := k * 3 + 2) (by omega)
      have f2' := f2
      rw [List.getElem?_eq_getElem (by omega)] at f2'
      injection f2' with f2'
      rw [f2'] at s2
      have F0 := Lib.hid f0
      have F1 := Lib.hid f1
      have HX := Lib.hid hx
      have HCL := Lib.hid hcl
      clear f0 f1 f2 f2' e0 e1 e2 hx hcl drop_at
      go_wp2_with (fail)
      refine (slices_Clone A4 c4 q.s _ (hi.below hb) (by omega)).mono ?_; rintro e w4 ⟨A5, c5, rfl, o5, b5⟩
      have z5 := b5.size
      have ho' := ho.below b5 (Nat.le_refl _)
      have hcr' : CellsRows w4 w.heap.size wr.heap.size (cs.take (k * 3)) (rs.take k) := hcr.keep fun x _ h2 _ => b5.block x h2
      obtain ⟨_, hA, _, _, s2', z2'⟩ := ho'.cell (j := k * 3 + 2) (by rw [HCL.out]; omega)
      injection hA with hA
      injection hA with hA
      subst hA
      have hb4 := hb.trans (b5.mono hzs)
      go_wp2_with (fail)
      go_roundw
      case rel =>
        have hst := ho'.store (j := k * 3 + 2) (Value.slice A5 q.s.length c5)
        have e : (cs.set (k * 3 + 2) (Value.slice A5 q.s.length c5)).take ((k + 1) * 3) = cs.take (k * 3) ++ [.int .i64 q.d, .int .i64 q.r, .slice A5 q.s.length c5] := by
          have hh := HCL.out
          have e0 := F0.out
          have e1 := F1.out
          rw [show (k + 1) * 3 = k * 3 + 2 + 1 by omega, take_set_succ _ _ _ (by omega), show k * 3 + 2 = k * 3 + 1 + 1 by omega, take_snoc e1, take_snoc e0]
          simp
        refine ⟨k + 1, cs.set (k * 3 + 2) (.slice A5 q.s.length c5), by omega, by go_num, hst.1.mono (Nat.le_refl _) (by simp; omega), ?_, Lib.hid ?_, by (repeat (first | exact Below.refl _ _ | assumption | apply Below.drew | apply below_drewN | (refine Below.alloc ?_ (by first | omega | (simp; done) | (simp; omega)) _) | (refine Below.setCell ?_ (by first | omega | (simp; done) | (simp; omega)) _)))⟩
        · rw [e, take_snoc HX.out]
          exact (((hcr'.storeT ho' ht _ _).snoc (m := wr.heap.size) (OwnC.keepT o5 fun x cur _ _ hx' => Below.heap_setCell w4 _ _ x (by
            rintro rfl
            rcases ho'.form with ⟨hA, _⟩ | ⟨q', cur2, hA, _, _, hh, _⟩
            · cases hA
            · injection hA with hA
              injection hA with hA
              subst hA
              rw [hx'] at hh
              injection hh with hh
              injection hh with _ hh
              exact ht hh)) hzs z5)).mono (Nat.le_refl _) (by simp)
        · rw [List.drop_set_of_lt (by omega)]
          have := HR.out
          rw [show (k + 1) * 3 = k * 3 + 3 by omega, ← List.drop_drop, ← List.drop_drop, this]
      case measure => simp [intOf]; omega
    · obtain rfl : k = rs.length := by omega
      have hcl := ho.len
      rw [take_all (Nat.le_refl _), take_all (by omega)] at hcr
      go_wp2_with (fail)
      go_ret
      exact ⟨A2, c2, rfl, ⟨cs, ho, hcr⟩, hb⟩

end Go.Proofs.YtnjgmhdmjaijgaaGreatDoor

/- Charts: ifChart, the last columns, own copies. -/
namespace Go.Proofs.YtnjgmhdmjaijgaaGreatDoor
open Go.RowKit

theorem chartStacks_last {n : Int} {rs : List RowD} (h : chartB n rs = true) : ∃ m xs, (chartStacks n rs).length = m + 1 ∧ (chartStacks n rs)[m]? = some xs ∧ lastOf n rs = (xs.length : Int) := by
  have h1 := (chartB_of h).2.1.1
  have h2 : (chartStacks n rs).length = rs.length := by rw [chartStacks, if_pos h, stacksFrom_length]
  obtain ⟨m, hm⟩ : ∃ m, (chartStacks n rs).length = m + 1 := ⟨rs.length - 1, by omega⟩
  obtain ⟨xs, hx⟩ : ∃ xs, (chartStacks n rs)[m]? = some xs := ⟨_, List.getElem?_eq_getElem (by omega)⟩
  refine ⟨m, xs, hm, hx, ?_⟩
  unfold lastOf
  rw [List.getLast?_eq_getElem?, hm, Nat.add_sub_cancel, hx]
  rfl

theorem impl_columnsAtEnd (n : Int) (rs : List RowD) (A : Option Addr) (c : Nat) (w : World) (h : RowsR w A rs) (hl : rs.length ≤ 9223372036854775807) (hv : chartB n rs = true) :
    Calls Tryz.prog 39 #[.agg #[.int .i64 n, .slice A rs.length c]] w fun e w' => e = .returned (.int .i64 (lastOf n rs)) ∧ Below w.heap.size w w' := by
  have h8 := (chartStacks_size n rs).1
  obtain ⟨m, xs, hm, hx, hlast⟩ := chartStacks_last hv
  have HLA := Lib.hid hlast; clear hlast
  have hb1 : Below w.heap.size w (w.alloc (.cells #[.int .i64 n, .slice A rs.length c] 24)) := by (repeat (first | exact Below.refl _ _ | assumption | apply Below.drew | apply below_drewN | (refine Below.alloc ?_ (by first | omega | (simp; done) | (simp; omega)) _) | (refine Below.setCell ?_ (by first | omega | (simp; done) | (simp; omega)) _)))
  go_enter Tryz.func39, Tryz.ntmps39
  go_wp2_with (fail)
  refine (impl_allStacks n rs A c _ (h.below hb1) hl).mono ?_; rintro e w2 ⟨A', c', rfl, o2, b2⟩
  have hb2 : Below w.heap.size w w2 := hb1.trans (b2.mono (by simp))
  clear hv
  generalize chartStacks n rs = xss at o2 hm hx h8 ⊢
  obtain ⟨b, off, A4, c4, ys, rfl, hy, hc, hi, hyl⟩ := o2.ints2 m (by omega)
  obtain rfl : xs = ys := by rw [hx] at hy; injection hy
  rw [hm]
  have hm8 : m + 1 ≤ 8 := by omega
  clear hx hy o2 hm h8
  go_wp2_with (fail)
  go_ret
  exact ⟨ret_int HLA.out.symm, hb2⟩

set_option maxHeartbeats 1000000 in
theorem impl_ifChart (n : Int) (rs : List RowD) (A : Option Addr) (c : Nat) (w : World) (h : RowsR w A rs) (hl : rs.length ≤ 9223372036854775807) :
    Calls Tryz.prog 40 #[.agg #[.int .i64 n, .slice A rs.length c]] w fun e w' => e = .returned (.tuple #[.agg #[.int .i64 (if chartB n rs then n else 0), .slice (if chartB n rs then A else none) (if chartB n rs then rs.length else 0) (if chartB n rs then c else 0)], .int .i64 (if chartB n rs then 0 else 5)]) ∧ Below w.heap.size w w' := by
  have hb1 : Below w.heap.size w ((w.alloc (.cells #[.int .i64 n, .slice A rs.length c] 24)).alloc (.cells #[.int .i64 0, .slice none 0 0] 24)) := by (repeat (first | exact Below.refl _ _ | assumption | apply Below.drew | apply below_drewN | (refine Below.alloc ?_ (by first | omega | (simp; done) | (simp; omega)) _) | (refine Below.setCell ?_ (by first | omega | (simp; done) | (simp; omega)) _)))
  have ka := (Blk.new w 24 #[.int .i64 n, .slice A rs.length c]).alloc (.cells #[.int .i64 0, .slice none 0 0] 24)
  have kz : Blk ((w.alloc (.cells #[.int .i64 n, .slice A rs.length c] 24)).alloc (.cells #[.int .i64 0, .slice none 0 0] 24)) (w.heap.size + 1) 24 #[.int .i64 0, .slice none 0 0] := by simpa using Blk.new (w.alloc (.cells #[.int .i64 n, .slice A rs.length c] 24)) 24 #[.int .i64 0, .slice none 0 0]
  cases hv : chartB n rs
  · go_enter Tryz.func40, Tryz.ntmps40
    go_wp2_with (fail)
    refine (impl_ValidChart n rs A c _ (h.below hb1) hl).mono ?_; rintro e w2 ⟨rfl, b2⟩
    have hb2 : Below w.heap.size w w2 := hb1.trans (b2.mono (by simp only [World.size_alloc]; omega))
    have ka2 := ka.below b2 (by simp; omega)
    have kz2 := kz.below b2 (by simp)
    obtain ⟨q0, q1⟩ := ka2.c2
    obtain ⟨r0, r1⟩ := kz2.c2
    have g0 := kz2.frozen 0
    have g1 := kz2.frozen 1
    rw [hv]
    go_wp2_with (fail)
    refine bodyPost_ret (v := .tuple #[.agg #[.int .i64 0, .slice none 0 0], .int .i64 5]) (by simp [results, Tryz.results40, go_sem, r0, r1]) rfl ⟨rfl, ?_⟩
    (repeat (first | exact Below.refl _ _ | assumption | apply Below.drew | apply below_drewN | (refine Below.alloc ?_ (by first | omega | (simp; done) | (simp; omega)) _) | (refine Below.setCell ?_ (by first | omega | (simp; done) | (simp; omega)) _)))
  · go_enter Tryz.func40, Tryz.ntmps40
    go_wp2_with (fail)
    refine (impl_ValidChart n rs A c _ (h.below hb1) hl).mono ?_; rintro e w2 ⟨rfl, b2⟩
    have hb2 : Below w.heap.size w w2 := hb1.trans (b2.mono (by simp only [World.size_alloc]; omega))
    have ka2 := ka.below b2 (by simp; omega)
    have kz2 := kz.below b2 (by simp)
    obtain ⟨q0, q1⟩ := ka2.c2
    obtain ⟨r0, r1⟩ := kz2.c2
    have g0 := kz2.frozen 0
    have g1 := kz2.frozen 1
    rw [hv]
    go_wp2_with (fail)
    refine bodyPost_ret (v := .tuple #[.agg #[.int .i64 n, .slice A rs.length c], .int .i64 0]) (by simp [results, Tryz.results40, go_sem, r0, r1]) rfl ⟨rfl, ?_⟩
    (repeat (first | exact Below.refl _ _ | assumption | apply Below.drew | apply below_drewN | (refine Below.alloc ?_ (by first | omega | (simp; done) | (simp; omega)) _) | (refine Below.setCell ?_ (by first | omega | (simp; done) | (simp; omega)) _)))


end Go.Proofs.YtnjgmhdmjaijgaaGreatDoor

/- A region that draws its order and whose last operation waits for all the others: it is carried out last. -/
namespace Go.Proofs.YtnjgmhdmjaijgaaGreatDoor
open Go Go.RowKit

/-- What is left to do behind the region's other operations: these, one after the other. -/
def QTail (P : Program) (T : List Oper) (Q : Exit → Act → World → Prop) : Exit → Act → World → Prop
  | .normal, a, w => wpList P #[] Q T a w
  | e, a, w => Q e a w
def popB (ops : Array Oper) : Bool :=
  ops.toList.all (fun x => x.guard.isNone) &&
  (List.range ops.size).all (fun i => match ops[i]? with | some x => x.after.toList.all (fun e => !Region.binds .any e || decide (e.on < i)) | none => false) &&
  (List.range (ops.size - 1)).all (fun i => (List.range ops.size).any fun j => decide (i < j) && (match ops[j]? with | some x => x.after.toList.any (fun e => Region.binds .any e && decide (e.on = i)) | none => false))
theorem pop_guard {ops : Array Oper} (h : popB ops = true) {i : Nat} {x : Oper} (hx : ops[i]? = some x) : x.guard = none := by
  unfold popB at h
  simp only [Bool.and_eq_true, List.all_eq_true] at h
  have := h.1.1 x (by rw [Array.mem_toList_iff]; exact Array.mem_of_getElem? hx)
  simpa using this
theorem pop_low {ops : Array Oper} (h : popB ops = true) {i : Nat} {x : Oper} (hx : ops[i]? = some x) : ∀ e ∈ x.after, Region.binds .any e = true → e.on < i := by
  unfold popB at h
  simp only [Bool.and_eq_true, List.all_eq_true] at h
  have hi : i < ops.size := (Array.getElem?_eq_some_iff.1 hx).1
  have := h.1.2 i (by simpa using hi)
  rw [hx] at this
  simp only [List.all_eq_true, Bool.or_eq_true, Bool.not_eq_true', decide_eq_true_eq] at this
  intro e he hb
  rcases this e (by rw [Array.mem_toList_iff]; exact he) with h | h
  · rw [hb] at h; cases h
  · exact h
theorem pop_wait {ops : Array Oper} (h : popB ops = true) {i : Nat} (hi : i < ops.size - 1) : ∃ j x e, i < j ∧ ops[j]? = some x ∧ e ∈ x.after ∧ Region.binds .any e = true ∧ e.on = i := by
  unfold popB at h
  simp only [Bool.and_eq_true, List.all_eq_true] at h
  have := h.2 i (by simpa using hi)
  obtain ⟨j, hj, hb⟩ := List.any_eq_true.1 this
  simp only [Bool.and_eq_true, decide_eq_true_eq] at hb
  obtain ⟨hij, hb⟩ := hb
  cases hx : ops[j]? with
  | none => rw [hx] at hb; cases hb
  | some x =>
    rw [hx] at hb
    obtain ⟨e, he, hb⟩ := List.any_eq_true.1 hb
    simp only [Bool.and_eq_true, decide_eq_true_eq] at hb
    exact ⟨j, x, e, hij, hx, by rw [← Array.mem_toList_iff]; exact he, hb.1, hb.2⟩

structure PopRel (ops : Array Oper) (l l' : Array Bool) : Prop where
  s : l.size = ops.size
  s' : l'.size + 1 = ops.size
  same : ∀ i, i < l'.size → l[i]? = l'[i]?
  last : l[l'.size]? = some false
  closed : ∀ i x, i < l'.size → l[i]? = some true → ops[i]? = some x → ∀ e ∈ x.after, Region.binds .any e = true → l[e.on]? = some true
theorem getD_f {l : Array Bool} {i : Nat} : l.getD i true = false ↔ l[i]? = some false := by
  rw [Array.getD_eq_getD_getElem?]
  cases l[i]? with
  | none => simp
  | some b => simp
theorem getD_t {l : Array Bool} {i : Nat} : l.getD i false = true ↔ l[i]? = some true := by
  rw [Array.getD_eq_getD_getElem?]
  cases l[i]? with
  | none => simp
  | some b => simp
theorem ready_iff {md : Region.Mode} {ops : Array Oper} {l : Array Bool} {i : Nat} : i ∈ Region.ready md ops l ↔ l[i]? = some false ∧ ∃ x, ops[i]? = some x ∧ ∀ e ∈ x.after, Region.binds md e = true → l[e.on]? = some true := by
  rw [mem_ready, getD_f]
  constructor
  · rintro ⟨h1, x, hx, h2⟩; exact ⟨h1, x, hx, fun e he hb => getD_t.1 (h2 e he hb)⟩
  · rintro ⟨h1, x, hx, h2⟩; exact ⟨h1, x, hx, fun e he hb => getD_t.2 (h2 e he hb)⟩
section
variable {P : Program} {ops : Array Oper} {Q : Exit → Act → World → Prop} {l l' : Array Bool}
theorem pop_at {i : Nat} (hi : i < ops.size - 1) : ops.pop[i]? = ops[i]? := by
  rw [Array.getElem?_pop]
  simp [hi]
theorem PopRel.ready (h : PopRel ops l l') (hp : popB ops = true) {i : Nat} (hi : i < l'.size) : i ∈ Region.ready .any ops.pop l' ↔ i ∈ Region.ready .any ops l := by
  have hs := h.s'
  rw [ready_iff, ready_iff, pop_at (by omega), h.same i hi]
  constructor
  · rintro ⟨h1, x, hx, h2⟩
    exact ⟨h1, x, hx, fun e he hb => by have := pop_low hp hx e he hb; rw [h.same _ (by omega)]; exact h2 e he hb⟩
  · rintro ⟨h1, x, hx, h2⟩
    exact ⟨h1, x, hx, fun e he hb => by have := pop_low hp hx e he hb; rw [← h.same _ (by omega)]; exact h2 e he hb⟩
theorem PopRel.all_of_last (h : PopRel ops l l') (hp : popB ops = true) (hn : l'.size ∈ Region.ready .any ops l) : ∀ i, i < l'.size → l[i]? = some true := by
  have hs := h.s'
  have key : ∀ m i, l'.size - i ≤ m → i < l'.size → l[i]? = some true := by
    intro m
    induction m with
    | zero => intro i h1 h2; omega
    | succ m ih =>
      intro i h1 h2
      obtain ⟨j, x, e, hij, hx, he, hb, hon⟩ := pop_wait hp (i := i) (by omega)
      have hj : j < ops.size := (Array.getElem?_eq_some_iff.1 hx).1
      by_cases hjn : j = l'.size
      · subst hjn
        obtain ⟨_, y, hy, h3⟩ := ready_iff.1 hn
        rw [hx] at hy
        injection hy with hy
        subst hy
        rw [← hon]
        exact h3 e he hb
      · have := ih j (by omega) (by omega)
        rw [← hon]
        exact h.closed j x (by omega) this hx e he hb
  intro i hi
  exact key l'.size i (by omega) hi
theorem PopRel.all_of_none (h : PopRel ops l l') (hp : popB ops = true) (hn : Region.ready .any ops.pop l' = []) : ∀ i, i < l'.size → l[i]? = some true := by
  have hs := h.s'
  intro i
  induction i using Nat.strongRecOn with
  | ind i ih =>
    intro hi
    have hx : ops[i]? = some ops[i] := Array.getElem?_eq_getElem (by omega)
    have hl : l[i]? = some (l[i]'(by rw [h.s]; omega)) := Array.getElem?_eq_getElem (by rw [h.s]; omega)
    cases hb : l[i]'(by rw [h.s]; omega) with
    | true => rw [hl, hb]
    | false =>
      rw [hb] at hl
      have : i ∈ Region.ready .any ops l := ready_iff.2 ⟨hl, _, hx, fun e he hb => by have := pop_low hp hx e he hb; exact ih _ this (by omega)⟩
      rw [← h.ready hp hi, hn] at this
      cases this
theorem PopRel.last_ready (h : PopRel ops l l') (hp : popB ops = true) (ha : ∀ i, i < l'.size → l[i]? = some true) : l'.size ∈ Region.ready .any ops l := by
  have hs := h.s'
  have hx : ops[l'.size]? = some (ops[l'.size]'(by omega)) := Array.getElem?_eq_getElem (by omega)
  exact ready_iff.2 ⟨h.last, _, hx, fun e he hb => ha _ (pop_low hp hx e he hb)⟩
theorem PopRel.step (h : PopRel ops l l') {i : Nat} (hi : i < l'.size) (hr : i ∈ Region.ready .any ops l) : PopRel ops (l.setIfInBounds i true) (l'.setIfInBounds i true) := by
  have hs := h.s
  have hs' := h.s'
  have at_ : ∀ j : Nat, l[j]? = some true → (l.setIfInBounds i true)[j]? = some true := by
    intro j hj
    rw [Array.getElem?_setIfInBounds]
    split
    · rename_i e; subst e; rw [if_pos (by omega)]
    · exact hj
  refine ⟨by simpa using hs, by simpa using hs', fun j hj => ?_, ?_, fun j x hj hl hx e he hb => ?_⟩
  · simp only [Array.size_setIfInBounds] at hj
    rw [Array.getElem?_setIfInBounds, Array.getElem?_setIfInBounds]
    split
    · rw [if_pos (by omega)]
    · exact h.same j hj
  · simp only [Array.size_setIfInBounds]
    rw [Array.getElem?_setIfInBounds, if_neg (by omega)]
    exact h.last
  · simp only [Array.size_setIfInBounds] at hj
    rw [Array.getElem?_setIfInBounds] at hl
    split at hl
    · rename_i e'
      subst e'
      obtain ⟨_, y, hy, h3⟩ := ready_iff.1 hr
      rw [hx] at hy
      injection hy with hy
      subst hy
      exact at_ _ (h3 e he hb)
    · exact at_ _ (h.closed j x hj hl hx e he hb)
theorem Oper.wp_le {o : Oper} {a : Act} {w : World} {K K' : Act → World → Prop} {Q' : Exit → Act → World → Prop} (hk : ∀ a w, K a w → K' a w) (hp : ∀ c a w, Q (.panic c) a w → Q' (.panic c) a w) (hout : LetsOut Q → LetsOut Q')
    (hh : o.wp P a w K Q) : o.wp P a w K' Q' := by
  unfold Oper.wp at *
  generalize (execOp a.eval o).run P w = r at *
  cases r with
  | ok n w' =>
    cases n <;> simp only [Oper.upon] at hh ⊢ <;>
      first
        | exact hk _ _ hh
        | exact Calls.mono hh (fun e w'' he => by cases e <;> first | exact hk _ _ he | exact hout he | exact hp _ _ _ he)
        | exact Rows.mono hh (fun _ _ he => hk _ _ he)
  | halt x w' => cases x <;> simp only [Oper.upon] at hh ⊢ <;> exact hp _ _ _ hh
theorem wpOp_le {i : Nat} {a : Act} {w : World} {K K' : Act → World → Prop} {Q' : Exit → Act → World → Prop} (hk : ∀ a w, K a w → K' a w) (hp : ∀ c a w, Q (.panic c) a w → Q' (.panic c) a w) (hout : LetsOut Q → LetsOut Q')
    (hh : wpOp P ops Q i K a w) : wpOp P ops Q' i K' a w := by
  unfold wpOp at *
  split
  · rename_i hx
    rw [hx] at hh
    exact hk _ _ hh
  · rename_i o ho
    simp only [ho] at hh
    split
    · rename_i hw
      simp only [hw, if_true] at hh
      exact hh.imp (Oper.wp_le hk hp hout) fun h => ⟨h.1, hout h.2⟩
    · rename_i hw
      simp only [hw] at hh
      exact hk _ _ hh
theorem wpAny_le {Q' : Exit → Act → World → Prop} {md : Region.Mode} (hn : ∀ a w, Q .normal a w → Q' .normal a w) (hp : ∀ c a w, Q (.panic c) a w → Q' (.panic c) a w) (hout : LetsOut Q → LetsOut Q') :
    ∀ (fuel : Nat) (l : Array Bool) (a : Act) (w : World), wpAny P md ops Q fuel l a w → wpAny P md ops Q' fuel l a w
  | 0, _, _, _, h => ⟨h.1, hn _ _ h.2⟩
  | fuel + 1, _, _, _, h => ⟨fun h0 => hn _ _ (h.1 h0), fun i hi => wpOp_le (fun _ _ h' => wpAny_le hn hp hout fuel _ _ _ h') hp hout (h.2 i hi)⟩
theorem wpList_join {T : List Oper} {o : Oper} (hg : ∀ x ∈ T, x.guard = none) : ∀ (a : Act) (w : World), wpList P #[] Q (T ++ [o]) a w → wpList P #[] (QTail P [o] Q) T a w := by
  induction T with
  | nil => intro a w h; exact h
  | cons x T ih =>
    intro a w h
    rw [List.cons_append] at h
    unfold wpList at h ⊢
    have hw : Region.wanted x (yielded #[] a.tmps) = true := by simp [Region.wanted, hg x (by simp)]
    simp only [hw, if_true] at h ⊢
    exact h.imp (Oper.wp_le (ih fun y hy => hg y (by simp [hy])) (fun _ _ _ h => h) (fun ⟨a, w, h⟩ => ⟨a, w, h⟩)) fun h => ⟨h.1, h.2.imp fun a h => h.imp fun w h => h⟩
theorem pop_fin {o : Oper} (h : PopRel ops l l') (hp : popB ops = true) (ho : ops[l'.size]? = some o) (ha : ∀ i, i < l'.size → l[i]? = some true) {a : Act} {w : World} (hq : wpList P #[] Q [o] a w) (fuel : Nat) :
    wpOp P ops Q l'.size (wpAny P .any ops Q fuel (l.setIfInBounds l'.size true)) a w := by
  have hg := pop_guard hp ho
  have hr : Region.ready .any ops (l.setIfInBounds l'.size true) = [] := by
    apply List.eq_nil_iff_forall_not_mem.2
    intro i hi
    obtain ⟨h1, x, hx, _⟩ := ready_iff.1 hi
    rw [Array.getElem?_setIfInBounds] at h1
    split at h1
    · split at h1
      · cases h1
      · cases h1
    · have hil : i < ops.size := (Array.getElem?_eq_some_iff.1 hx).1
      have hs := h.s'
      rw [ha i (by omega)] at h1
      cases h1
  have fin : ∀ a w, Q .normal a w → wpAny P .any ops Q fuel (l.setIfInBounds l'.size true) a w := by
    intro a w hq
    cases fuel with
    | zero => exact ⟨hr, hq⟩
    | succ fuel => exact ⟨fun _ => hq, by rw [hr]; simp⟩
  unfold wpOp
  rw [ho]
  have hw : Region.wanted o (yielded ops a.tmps) = true := by simp [Region.wanted, hg]
  have hw0 : Region.wanted o (yielded #[] a.tmps) = true := by simp [Region.wanted, hg]
  simp only [hw, if_true]
  unfold wpList at hq
  simp only [hw0, if_true] at hq
  rcases hq with hq | hq
  · exact .inl (Oper.wp_mono fin hq)
  · exact .inr hq
theorem wpAny_pop {o : Oper} (hp : popB ops = true) (ho : ops[ops.size - 1]? = some o) : ∀ (fuel : Nat) (l l' : Array Bool) (a : Act) (w : World), PopRel ops l l' →
    wpAny P .any ops.pop (QTail P [o] Q) fuel l' a w → wpAny P .any ops Q (fuel + 1) l a w := by
  intro fuel
  induction fuel with
  | zero =>
    intro l l' a w h H
    have hs := h.s'
    have ha := h.all_of_none hp H.1
    have hn := h.last_ready hp ha
    have ho' : ops[l'.size]? = some o := by rw [← ho]; congr 1; omega
    refine ⟨fun h0 => (by rw [h0] at hn; cases hn), fun i hi => ?_⟩
    obtain ⟨h1, x, hx, _⟩ := ready_iff.1 hi
    have hil : i < ops.size := (Array.getElem?_eq_some_iff.1 hx).1
    have : i = l'.size := by
      rcases Nat.lt_or_ge i l'.size with hlt | hge
      · rw [ha i hlt] at h1; cases h1
      · omega
    subst this
    exact pop_fin h hp ho' ha H.2 0
  | succ fuel ih =>
    intro l l' a w h H
    have hs := h.s'
    have ho' : ops[l'.size]? = some o := by rw [← ho]; congr 1; omega
    refine ⟨fun h0 => ?_, fun i hi => ?_⟩
    · have hn : Region.ready .any ops.pop l' = [] := by
        apply List.eq_nil_iff_forall_not_mem.2
        intro i hi
        have hil : i < l'.size := by
          have h1 := (ready_iff.1 hi).1
          exact (Array.getElem?_eq_some_iff.1 h1).1
        rw [h.ready hp hil, h0] at hi
        cases hi
      have := h.last_ready hp (h.all_of_none hp hn)
      rw [h0] at this
      cases this
    · have hil : i < l.size := by
        have h1 := (ready_iff.1 hi).1
        exact (Array.getElem?_eq_some_iff.1 h1).1
      have hsz := h.s
      by_cases hin : i = l'.size
      · subst hin
        have ha := h.all_of_last hp hi
        have hn : Region.ready .any ops.pop l' = [] := by
          apply List.eq_nil_iff_forall_not_mem.2
          intro i hi
          have h1 := (ready_iff.1 hi).1
          have hil : i < l'.size := (Array.getElem?_eq_some_iff.1 h1).1
          rw [← h.same i hil, ha i hil] at h1
          cases h1
        exact pop_fin h hp ho' ha (H.1 hn) (fuel + 1)
      · have hlt : i < l'.size := by omega
        have h2 := H.2 i ((h.ready hp hlt).2 hi)
        have hx : ops[i]? = some (ops[i]'(by omega)) := Array.getElem?_eq_getElem (by omega)
        have hg := pop_guard hp hx
        unfold wpOp at h2 ⊢
        rw [pop_at (by omega), hx] at h2
        rw [hx]
        have hw1 : Region.wanted (ops[i]'(by omega)) (yielded ops.pop a.tmps) = true := by simp [Region.wanted, hg]
        have hw2 : Region.wanted (ops[i]'(by omega)) (yielded ops a.tmps) = true := by simp [Region.wanted, hg]
        simp only [hw1, if_true] at h2
        simp only [hw2, if_true]
        rcases h2 with h2 | ⟨h2, h3⟩
        · exact .inl (Oper.wp_le (fun a w hk => ih _ _ a w (h.step hlt hi) hk) (fun _ _ _ h => h) (fun ⟨a, w, h⟩ => ⟨a, w, h⟩) h2)
        · exact .inr ⟨h2, h3⟩
theorem PopRel.start (hpos : 0 < ops.size) : PopRel ops (Array.replicate ops.size false) (Array.replicate (ops.size - 1) false) := by
  refine ⟨by simp, by simp; omega, fun i hi => ?_, ?_, fun i x hi hl => ?_⟩
  · simp at hi
    simp [Array.getElem?_replicate, hi]
    omega
  · simp [Array.getElem?_replicate]
    omega
  · simp [Array.getElem?_replicate] at hl
/-- The region without its last k operations. -/
def pops : Nat → Array Oper → Array Oper
  | 0, ops => ops
  | k + 1, ops => pops k ops.pop
def popsB : Nat → Array Oper → Bool
  | 0, _ => true
  | k + 1, ops => popB ops && decide (0 < ops.size) && popsB k ops.pop
def tailOf : Nat → Array Oper → List Oper
  | 0, _ => []
  | k + 1, ops => tailOf k ops.pop ++ (ops.back?).toList
theorem tailOf_guard {k : Nat} : ∀ {ops : Array Oper}, popsB k ops = true → ∀ x ∈ tailOf k ops, x.guard = none := by
  induction k with
  | zero => intro ops _ x hx; simp [tailOf] at hx
  | succ k ih =>
    intro ops h x hx
    simp only [popsB, Bool.and_eq_true] at h
    simp only [tailOf, List.mem_append] at hx
    rcases hx with hx | hx
    · exact ih h.2 x hx
    · simp only [Option.mem_toList] at hx
      exact pop_guard h.1.1 (i := ops.size - 1) (by rw [← Array.back?_eq_getElem?]; exact hx)
theorem wpAny_pops {k : Nat} : ∀ {ops : Array Oper} {Q : Exit → Act → World → Prop} {a : Act} {w : World}, popsB k ops = true →
    wpAny P .any (pops k ops) (QTail P (tailOf k ops) Q) (ops.size - k) (Array.replicate (ops.size - k) false) a w → wpAny P .any ops Q ops.size (Array.replicate ops.size false) a w := by
  induction k with
  | zero => intro ops Q a w _ h; exact wpAny_le (Q := QTail P (tailOf 0 ops) Q) (Q' := Q) (fun _ _ h => h) (fun _ _ _ h => h) (fun ⟨a, w, h⟩ => ⟨a, w, h⟩) _ _ _ _ h
  | succ k ih =>
    intro ops Q a w hp h
    simp only [popsB, Bool.and_eq_true, decide_eq_true_eq] at hp
    obtain ⟨⟨hp1, hpos⟩, hp2⟩ := hp
    obtain ⟨o, ho⟩ : ∃ o, ops[ops.size - 1]? = some o := ⟨_, Array.getElem?_eq_getElem (by omega)⟩
    have hb : ops.back? = some o := by rw [Array.back?_eq_getElem?]; exact ho
    have h1 : wpAny P .any ops.pop (QTail P [o] Q) ops.pop.size (Array.replicate ops.pop.size false) a w := by
      refine ih hp2 ?_
      have e : ops.pop.size - k = ops.size - (k + 1) := by simp; omega
      rw [e]
      refine wpAny_le (Q := QTail P (tailOf (k + 1) ops) Q) (Q' := QTail P (tailOf k ops.pop) (QTail P [o] Q)) (fun a w hn => ?_) (fun _ _ _ h => h) (fun ⟨a, w, h⟩ => ⟨a, w, h⟩) _ _ _ _ h
      have hn' : wpList P #[] Q (tailOf k ops.pop ++ [o]) a w := by
        have : wpList P #[] Q (tailOf k ops.pop ++ (ops.back?).toList) a w := hn
        rwa [hb] at this
      exact wpList_join (tailOf_guard hp2) a w hn'
    have h2 := wpAny_pop (Q := Q) hp1 ho ops.pop.size (Array.replicate ops.size false) (Array.replicate ops.pop.size false) a w (by rw [Array.size_pop]; exact PopRel.start hpos) h1
    have e : ops.pop.size + 1 = ops.size := by simp; omega
    rwa [e] at h2
/-- The beginning of such a region: its last k operations are carried out last, one after the other. -/
theorem wp_region_pops (k : Nat) {S : World → Prop} {id : Nat} {a : Act} {w : World} {pre : Array Oper} {T : List Oper} {n : Nat} (hm : P.follows .mixedOrders = true) (hp : popsB k ops = true)
    (hpre : pops k ops = pre) (hT : tailOf k ops = T) (hn : ops.size - k = n) (hS : S w.drew)
    (h : S w.drew → wpAnyH P .any pre (QTail P T Q) S n (Array.replicate n false) a w.drew) : (Code.region id ops true).wp P Q a w := by
  subst hpre hT hn
  exact wp_region_any hm (wpAny_pops hp (wpAny_of_held _ _ _ _ (h hS)))
end

end Go.Proofs.YtnjgmhdmjaijgaaGreatDoor

/- Charts: own copies, the given side. -/
namespace Go.Proofs.YtnjgmhdmjaijgaaGreatDoor
open Go Go.RowKit


end Go.Proofs.YtnjgmhdmjaijgaaGreatDoor

/- Charts: StackCharts. -/
namespace Go.Proofs.YtnjgmhdmjaijgaaGreatDoor
open Go Go.RowKit

/-- Rows behind rows, their stitches in blocks of their own. -/
theorem CellsRows.append {w : World} {lo m hi : Nat} {cs ds : List Value} {rs ss : List RowD} (h : CellsRows w lo m cs rs) (h' : CellsRows w m hi ds ss) (h1 : lo ≤ m) (h2 : m ≤ hi) : CellsRows w lo hi (cs ++ ds) (rs ++ ss) := by
  have hB : ∀ {i : Nat} {v : Value} {g : Nat}, cs[i]? = some v → v.ownBlock = some g → g < m := fun hi' hv => (h.block hi' hv).2.1
  have hC : ∀ {i : Nat} {v : Value} {g : Nat}, ds[i]? = some v → v.ownBlock = some g → m ≤ g := fun hi' hv => (h'.block hi' hv).1
  obtain ⟨ha, hb, hc⟩ := h
  obtain ⟨ha', hb', hc'⟩ := h'
  refine ⟨by simp [ha, ha']; omega, fun k q hq => ?_, fun i j v v' g hi' hj hv hv' => ?_⟩
  · rcases Nat.lt_or_ge k rs.length with hk | hk
    · rw [List.getElem?_append_left hk] at hq
      obtain ⟨A2, c2, e0, e1, e2, e3⟩ := hb k q hq
      exact ⟨A2, c2, by rw [List.getElem?_append_left (by omega)]; exact e0, by rw [List.getElem?_append_left (by omega)]; exact e1, by rw [List.getElem?_append_left (by omega)]; exact e2, e3.mono (Nat.le_refl _) h2⟩
    · rw [List.getElem?_append_right hk] at hq
      obtain ⟨A2, c2, e0, e1, e2, e3⟩ := hb' _ q hq
      refine ⟨A2, c2, ?_, ?_, ?_, e3.mono h1 (Nat.le_refl _)⟩
      · rw [List.getElem?_append_right (by omega), show k * 3 - cs.length = (k - rs.length) * 3 by omega]; exact e0
      · rw [List.getElem?_append_right (by omega), show k * 3 + 1 - cs.length = (k - rs.length) * 3 + 1 by omega]; exact e1
      · rw [List.getElem?_append_right (by omega), show k * 3 + 2 - cs.length = (k - rs.length) * 3 + 2 by omega]; exact e2
  · rcases Nat.lt_or_ge i cs.length with ei | ei
    · rw [List.getElem?_append_left ei] at hi'
      rcases Nat.lt_or_ge j cs.length with ej | ej
      · rw [List.getElem?_append_left ej] at hj
        exact hc i j v v' g hi' hj hv hv'
      · rw [List.getElem?_append_right ej] at hj
        have := hB hi' hv
        have := hC hj hv'
        omega
    · rw [List.getElem?_append_right ei] at hi'
      rcases Nat.lt_or_ge j cs.length with ej | ej
      · rw [List.getElem?_append_left ej] at hj
        have := hC hi' hv
        have := hB hj hv'
        omega
      · rw [List.getElem?_append_right ej] at hj
        have := hc' _ _ v v' g hi' hj hv hv'
        omega
theorem CellsRows.one {w : World} {lo hi : Nat} {cs : List Value} {rs : List RowD} (h : CellsRows w lo hi cs rs) : ∀ u ∈ cs, u.oneCell' = true := by
  intro u hu
  obtain ⟨i, hi⟩ := List.getElem?_of_mem hu
  have hil : i < cs.length := (List.getElem?_eq_some_iff.1 hi).1
  have hl := h.1
  obtain ⟨A', c', h0, h1, h2, _⟩ := h.2.1 (i / 3) _ (List.getElem?_eq_getElem (by omega))
  have : i = i / 3 * 3 ∨ i = i / 3 * 3 + 1 ∨ i = i / 3 * 3 + 2 := by omega
  rcases this with e | e | e
  · rw [← e, hi] at h0; injection h0 with h0; subst h0; rfl
  · rw [← e, hi] at h1; injection h1 with h1; subst h1; rfl
  · rw [← e, hi] at h2; injection h2 with h2; subst h2; rfl
theorem RowsR.drew1 {w : World} {A : Option Addr} {rs : List RowD} (h : RowsR w A rs) : RowsR (World.drew w) A rs := h
theorem Blk.drew1 {w : World} {g : Nat} {t : TypeId} {cs : Array Value} (h : Blk w g t cs) : Blk (World.drew w) g t cs := h
theorem lens_of_chart {n : Int} {rs : List RowD} (h : chartB n rs = true) : rs.length ≤ 8 ∧ ∀ r ∈ rs, r.s.length ≤ 16 := ⟨(chart_size h).1, fun r hr => (rowB_of ((chartB_of h).2.2 r hr)).2.2.2⟩
theorem stackCode_1 {n m : Int} {rs ss : List RowD} (h : chartB n rs = false ∨ chartB m ss = false) : stackCode n rs m ss = 1 := by
  unfold stackCode
  rw [if_neg (by rcases h with h | h <;> simp [h])]
theorem stackCode_2 {n m : Int} {rs ss : List RowD} (h1 : chartB n rs = true) (h2 : chartB m ss = true) : stackCode n rs m ss = if lastOf n rs = m then (if chartB n (rs ++ ss) then 0 else 5) else 10 := by
  unfold stackCode
  rw [if_pos (by simp [h1, h2])]


end Go.Proofs.YtnjgmhdmjaijgaaGreatDoor
