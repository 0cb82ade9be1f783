/- Steps of the proof, joined from several texts: RWf S2 FP O2 Q. -/
import Derived.Test.YtifjdiiafofnpaaDoorZ2
import Derived.Test.YtifjdiiafofnpaaDoorZ1
import Derived.Deep.Fields

/- Slices of rows: the helpers of the laws. -/
namespace Go.Proofs.YtifjdiiafofnpaaDoor
open Go.RowKit

set_option maxHeartbeats 1000000 in
theorem laws_szRowS (rs : List RowD) (A : Option Addr) (c : Nat) (l0 : Int) (w : World) (h : RowsR w A rs) (hl : rs.length ≤ 9223372036854775807) (h0 : 0 ≤ l0) (h1 : l0 ≤ 1048576) :
    Calls Tryd.prog 41 #[.slice A rs.length c, .int .i64 l0] w fun e w' => e = .returned (.int .i64 (szLeft l0 (sizeRows rs : Nat))) ∧ Below w.heap.size w w' := by
  by_cases hn : l0 < rs.length
  · have HF : Hid (szLeft l0 (sizeRows rs : Nat) = -1) := Lib.hid (by rw [szLeft, if_pos]; unfold sizeRows; omega)
    have hd : decide (l0 - (rs.length : Int) < 0) = true := decide_eq_true (by omega)
    go_enter Tryd.func41, Tryd.ntmps41
    go_wp2_with (fail)
    go_ret
    exact ⟨ret_int HF.out.symm, Below.refl _ _⟩
  · have hd : decide (l0 - (rs.length : Int) < 0) = false := decide_eq_false (by omega)
    go_enter Tryd.func41, Tryd.ntmps41
    go_wp2_with (fail)
    go_loopw [1, 5] (fun lv i wr => ∃ (k : Nat), k ≤ rs.length ∧ i = .int .i64 k ∧ lv = .int .i64 (l0 - rs.length - (lenRows (rs.take k) : Nat)) ∧ (lenRows (rs.take k) : Nat) ≤ l0 - rs.length ∧ Below w.heap.size w wr) (fun _ i _ => rs.length - (intOf i).toNat)
    case atStart => exact ⟨0, Nat.zero_le _, rfl, by simp [lenRows], by simp [lenRows]; omega, Below.refl _ _⟩
    case round =>
      obtain ⟨k, hk, rfl, rfl, hle, hb⟩ := hrel
      by_cases hlt : k < rs.length
      · obtain ⟨b, off, A', c', r, rfl, hx, q0, q1, q2, hi, hxl⟩ := (h.below hb) k hlt
        have hs := lenRows_snoc hx
        have hat := lenRows_at hx
        have HS := Lib.hid hs; clear hs
        have HX := Lib.hid hx; clear hx
        by_cases hz : l0 - rs.length - (lenRows (rs.take k) : Nat) < r.s.length
        · have hsz : szLeft (l0 - rs.length - (lenRows (rs.take k) : Nat)) r.s.length = -1 := by rw [szLeft, if_pos hz]
          go_wp2_with (fail)
          refine (laws_szRow _ _ _ _ _ _ _ hxl (by omega) (by omega)).mono ?_; rintro e w2 ⟨rfl, b2⟩
          go_wp2_with (fail)
          go_ret
          exact ⟨ret_int (by rw [szLeft, if_pos]; unfold sizeRows; omega), hb.trans (b2.mono hb.size)⟩
        · have hsz : szLeft (l0 - rs.length - (lenRows (rs.take k) : Nat)) r.s.length = l0 - rs.length - (lenRows (rs.take k) : Nat) - r.s.length := by rw [szLeft, if_neg hz]
          have hd2 : decide (l0 - rs.length - (lenRows (rs.take k) : Nat) - (r.s.length : Int) < 0) = false := decide_eq_false (by omega)
          go_wp2_with (fail)
          refine (laws_szRow _ _ _ _ _ _ _ hxl (by omega) (by omega)).mono ?_; rintro e w2 ⟨rfl, b2⟩
          go_wp2_with (fail)
          go_roundw
          case rel => exact ⟨k + 1, by omega, by go_num, int_eq (by rw [HS.out]; omega), by rw [HS.out]; omega, hb.trans (b2.mono hb.size)⟩
          case measure => simp [intOf]; omega
      · go_wp2_with (fail)
        go_ret
        refine ⟨ret_int ?_, hb⟩
        rw [take_all (by omega)] at hle ⊢
        rw [szLeft, if_neg]
        · unfold sizeRows; omega
        · unfold sizeRows; omega

set_option maxHeartbeats 2000000 in
theorem laws_toRowS (rs : List RowD) (A : Option Addr) (c : Nat) (w : World) (h : RowsR w A rs) (hl : sizeRows rs ≤ 1048576) :
    Calls Tryd.prog 44 #[.slice A rs.length c] w fun e w' => ∃ A' c', e = .returned (.slice A' rs.length c') ∧ OwnRows w' w.heap.size w'.heap.size A' rs.length c' rs ∧ Below w.heap.size w w' := by
  obtain ⟨i0, hi0, hz0, hz1, hz2⟩ := info_parts info_Row
  have hlen : rs.length ≤ 1048576 := by unfold sizeRows at hl; omega
  go_enter Tryd.func44, Tryd.ntmps44
  go_wp2_with (refine wpList_make_full _ rfl (.tmp 6) (.tmp 6) _ rfl w.heap.size 101 i0 _ 3 Tryd.underlying39 hi0 hz0 hz1 .i64 .i64 _ _ rs.length rfl rfl rfl rfl (by rw [hz2]; omega) (by unfold maxLen; omega) (Nat.le_refl _) ?_; intro w1 hown hg)
  have hb1 : Below w.heap.size w w1 := (Below.refl _ _).grown hg (Nat.le_refl _) (by simp)
  go_loopw [4] (fun i wr => ∃ (k : Nat) (cs : List Value) (ds : List RowD), k ≤ rs.length ∧ i = .int .i64 k ∧ OwnC wr w.heap.size wr.heap.size 101 3 (some ⟨w.heap.size, 0, none⟩) rs.length rs.length cs ∧ CellsRows wr (w.heap.size + 1) wr.heap.size cs ds ∧ ds.length = rs.length ∧ ds.take k = rs.take k ∧ Below w.heap.size w wr) (fun i _ => rs.length - (intOf i).toNat)
  case atStart =>
    exact ⟨0, _, List.replicate rs.length zeroRow, Nat.zero_le _, rfl, OwnC.of_own hown (Nat.le_refl _), CellsRows.zeros, by simp, by simp, hb1⟩
  case round =>
    clear hown hg hb1
    obtain ⟨k, cs, ds, hk, rfl, ho, hci, hdl, htk, hb⟩ := hrel
    have hcl : cs.length = rs.length * 3 := ho.len
    have HT := Lib.hid htk; clear htk
    have HC := Lib.hid hcl; clear hcl
    have HD := Lib.hid hdl; clear hdl
    by_cases hlt : k < rs.length
    · obtain ⟨b, off, A', c', r, rfl, hx, q0, q1, q2, hi, hxl⟩ := (h.below hb) k hlt
      have hat := lenRows_at hx
      have hxs : r.s.length ≤ 1048576 := by unfold sizeRows at hl; omega
      have HX := Lib.hid hx; clear hx
      have hgl : w.heap.size < wr.heap.size := (ho.own.lt _ rfl).2
      have hzs := hb.size
      go_wp2_with (fail)
      refine (laws_toRow _ _ _ _ _ _ hi hxs).mono ?_; rintro e w2 ⟨A2, c2, rfl, o2, b2⟩
      have ho2 := ho.below b2 (Nat.le_refl _)
      have hci2 := hci.keep (w' := w2) fun k _ h2 _ => b2.block k (by omega)
      have hb2 := hb.trans (b2.mono hb.size)
      have hz2' := b2.size
      obtain ⟨_, hA0, _, _, s0, f0⟩ := ho2.cell (j := k * 3) (by rw [HC.out]; omega)
      injection hA0 with hA0
      injection hA0 with hA0
      subst hA0
      obtain ⟨_, hA0, _, _, s1, f1⟩ := ho2.cell (j := k * 3 + 1) (by rw [HC.out]; omega)
      injection hA0 with hA0
      injection hA0 with hA0
      subst hA0
      obtain ⟨_, hA0, _, _, s2, f2⟩ := ho2.cell (j := k * 3 + 2) (by rw [HC.out]; omega)
      injection hA0 with hA0
      injection hA0 with hA0
      subst hA0
      go_wp2_with (fail)
      go_roundw
      case rel =>
        have hst := ((ho2.store (j := k * 3) (Value.int .i64 r.d)).1.store (j := k * 3 + 1) (Value.int .i64 r.r)).1.store (j := k * 3 + 2) (Value.slice A2 r.s.length c2)
        refine ⟨k + 1, _, ds.set k r, by omega, by go_num, hst.1.mono (Nat.le_refl _) (by simp; omega), ?_, by rw [List.length_set]; exact HD.out, ?_, by (repeat (first | exact Below.refl _ _ | assumption | apply Below.drew | apply below_drewN | (refine Below.alloc ?_ (by first | omega | (simp; done) | (simp; omega)) _) | (refine Below.setCell ?_ (by first | omega | (simp; done) | (simp; omega)) _)))⟩
        · refine CellsRows.keep (w := w2) ?_ fun q h1 h2 h3 => ?_
          · exact CellsRows.mono (hci2.set o2 (Nat.le_refl _) hz2' (by omega) (by rw [HD.out]; exact hlt)) (Nat.le_refl _) (by simp)
          · rw [Below.heap_setCell _ _ _ q (by show q ≠ w.heap.size; omega), Below.heap_setCell _ _ _ q (by show q ≠ w.heap.size; omega), Below.heap_setCell _ _ _ q (by show q ≠ w.heap.size; omega)]
        · rw [take_set_succ _ _ _ (by rw [HD.out]; exact hlt), HT.out, take_snoc HX.out]
      case measure => simp [intOf]; omega
    · go_wp2
      go_ret
      have : k = rs.length := by omega
      subst this
      have e : ds = rs := by
        have := HT.out
        rwa [take_all (by rw [HD.out]; exact Nat.le_refl _), take_all (Nat.le_refl _)] at this
      subst e
      exact ⟨_, _, rfl, ⟨cs, ho, hci.mono (Nat.le_succ _) (Nat.le_refl _)⟩, hb⟩

set_option maxHeartbeats 2000000 in
theorem laws_eqRowS (ps qs : List RowD) (A B : Option Addr) (c d : Nat) (w : World) (h : RowsR w A ps) (h' : RowsR w B qs) (hl : ps.length ≤ 1000000000000) (_hl' : qs.length ≤ 1000000000000) :
    Calls Tryd.prog 47 #[.slice A ps.length c, .slice B qs.length d] w fun e w' => e = .returned (.bool (decide (ps = qs))) ∧ Below w.heap.size w w' := by
  by_cases hle : ps.length = qs.length
  · have HL := Lib.hid hle
    have hle' : ((ps.length : Int) != (qs.length : Int)) = false := by simp [hle]
    clear hle
    go_enter Tryd.func47, Tryd.ntmps47
    go_wp2
    go_loopw [5] (fun i wr => ∃ (k : Nat), k ≤ ps.length ∧ i = .int .i64 k ∧ ps.take k = qs.take k ∧ Below w.heap.size w wr) (fun i _ => ps.length - (intOf i).toNat)
    case atStart => exact ⟨0, Nat.zero_le _, rfl, rfl, Below.refl _ _⟩
    case round =>
      obtain ⟨k, hk, rfl, htk, hb⟩ := hrel
      have HT := Lib.hid htk; clear htk
      by_cases hlt : k < ps.length
      · have hlt' : k < qs.length := by rw [← HL.out]; exact hlt
        obtain ⟨b, off, A1, c1, p, rfl, hp, h0, h1, h2, hi, hxl⟩ := (h.below hb) k hlt
        obtain ⟨b', off', A2, c2, q, rfl, hq, h0', h1', h2', hi', hyl⟩ := (h'.below hb) k hlt'
        have HP := Lib.hid hp; clear hp
        have HQ := Lib.hid hq; clear hq
        have j1 : (0 : Int) ≤ (k : Int) := by omega
        have j2 : (k : Int) < (ps.length : Int) := by omega
        have j3 : (k : Int) < (qs.length : Int) := by omega
        have hpd : decide (p.d = q.d ∧ p.r = q.r ∧ p.s = q.s) = decide (p = q) := decide_eq_decide.2 ⟨fun h => by cases p; cases q; simp_all, fun h => by simp [h]⟩
        by_cases hpq : p = q
        · have hpq' : decide (p.d = q.d ∧ p.r = q.r ∧ p.s = q.s) = true := by rw [hpd]; exact decide_eq_true hpq
          have HPQ := Lib.hid hpq; clear hpq hpd
          go_wp2_with (fail)
          go_region_held3 (fun W' => (W'.cell? ⟨b, off + k * 3, none⟩ = some (.int .i64 p.d) ∧ W'.cell? ⟨b, off + k * 3 + 1, none⟩ = some (.int .i64 p.r) ∧ W'.cell? ⟨b, off + k * 3 + 2, none⟩ = some (.slice A1 p.s.length c1)) ∧ (W'.cell? ⟨b', off' + k * 3, none⟩ = some (.int .i64 q.d) ∧ W'.cell? ⟨b', off' + k * 3 + 1, none⟩ = some (.int .i64 q.r) ∧ W'.cell? ⟨b', off' + k * 3 + 2, none⟩ = some (.slice A2 q.s.length c2))) (first | exact ⟨⟨h0, h1, h2⟩, h0', h1', h2'⟩ | exact ⟨⟨cells_below b2 _ _ h0, cells_below b2 _ _ h1, cells_below b2 _ _ h2⟩, cells_below b2 _ _ h0', cells_below b2 _ _ h1', cells_below b2 _ _ h2'⟩)
            (first | (go_at_call 82; refine (laws_eqRow _ _ _ _ _ _ _ _ _ _ _ (Ints.drewN hi 1) (Ints.drewN hi' 1) hxl hyl).mono ?_; rintro e w2 ⟨rfl, b2⟩; replace b2 := undrew b2))
          go_wp2_with (fail)
          go_roundw
          case rel => exact ⟨k + 1, by omega, by go_num, by rw [take_snoc HP.out, take_snoc HQ.out, HT.out, HPQ.out], hb.trans (b2.mono hb.size)⟩
          case measure => simp [intOf]; omega
        · have hpq' : decide (p.d = q.d ∧ p.r = q.r ∧ p.s = q.s) = false := by rw [hpd]; exact decide_eq_false hpq
          have HPQ := Lib.hid hpq; clear hpq hpd
          go_wp2_with (fail)
          go_region_held3 (fun W' => (W'.cell? ⟨b, off + k * 3, none⟩ = some (.int .i64 p.d) ∧ W'.cell? ⟨b, off + k * 3 + 1, none⟩ = some (.int .i64 p.r) ∧ W'.cell? ⟨b, off + k * 3 + 2, none⟩ = some (.slice A1 p.s.length c1)) ∧ (W'.cell? ⟨b', off' + k * 3, none⟩ = some (.int .i64 q.d) ∧ W'.cell? ⟨b', off' + k * 3 + 1, none⟩ = some (.int .i64 q.r) ∧ W'.cell? ⟨b', off' + k * 3 + 2, none⟩ = some (.slice A2 q.s.length c2))) (first | exact ⟨⟨h0, h1, h2⟩, h0', h1', h2'⟩ | exact ⟨⟨cells_below b2 _ _ h0, cells_below b2 _ _ h1, cells_below b2 _ _ h2⟩, cells_below b2 _ _ h0', cells_below b2 _ _ h1', cells_below b2 _ _ h2'⟩)
            (first | (go_at_call 82; refine (laws_eqRow _ _ _ _ _ _ _ _ _ _ _ (Ints.drewN hi 1) (Ints.drewN hi' 1) hxl hyl).mono ?_; rintro e w2 ⟨rfl, b2⟩; replace b2 := undrew b2))
          go_wp2_with (fail)
          go_ret
          exact ⟨ret_bool (by simpa using ne_of_getElem? HP.out HQ.out HPQ.out), hb.trans (b2.mono hb.size)⟩
      · go_wp2
        go_ret
        have : k = ps.length := by omega
        subst this
        have e := HT.out
        rw [take_all (Nat.le_refl _), take_all (by rw [HL.out]; exact Nat.le_refl _)] at e
        exact ⟨ret_bool (by simpa using e), hb⟩
  · have hle' : ((ps.length : Int) != (qs.length : Int)) = true := by simp; omega
    go_enter Tryd.func47, Tryd.ntmps47
    go_wp2
    go_ret
    exact ⟨ret_bool (by simp; intro e; exact hle (by rw [e])), Below.refl _ _⟩

def marksRows (k : Int) : List RowD → List RowD
  | [] => []
  | r :: rs => ⟨k, k + 1, marksI (k + 2) r.s.length⟩ :: marksRows (k + 2 + r.s.length) rs
theorem marksRows_length (k : Int) (rs : List RowD) : (marksRows k rs).length = rs.length := by
  induction rs generalizing k with
  | nil => rfl
  | cons x r ih => simp [marksRows, ih]
theorem cntRows_append (a b : List RowD) : cntRows (a ++ b) = cntRows a + cntRows b := by simp [cntRows, lenRows_append]; omega
theorem cntRows_snoc {rs : List RowD} {k : Nat} {r : RowD} (h : rs[k]? = some r) : cntRows (rs.take (k + 1)) = cntRows (rs.take k) + 2 + r.s.length := by
  rw [take_snoc h, cntRows_append]; simp [cntRows, lenRows]; omega
theorem cntRows_at {rs : List RowD} {k : Nat} {r : RowD} (h : rs[k]? = some r) : cntRows (rs.take k) + 2 + r.s.length ≤ cntRows rs := by
  rw [← cntRows_snoc h]
  have := cntRows_append (rs.take (k + 1)) (rs.drop (k + 1))
  rw [List.take_append_drop] at this
  omega
theorem marksRows_append (k : Int) (a b : List RowD) : marksRows k (a ++ b) = marksRows k a ++ marksRows (k + cntRows a) b := by
  induction a generalizing k with
  | nil => simp [marksRows, cntRows, lenRows]
  | cons x r ih =>
    have e : k + 2 + (x.s.length : Int) + (cntRows r : Nat) = k + (cntRows (x :: r) : Nat) := by simp [cntRows, lenRows]; omega
    simp only [List.cons_append, marksRows, ih, e]
theorem marksRows_snoc {k : Int} {rs : List RowD} {j : Nat} {r : RowD} (h : rs[j]? = some r) : marksRows k (rs.take (j + 1)) = marksRows k (rs.take j) ++ [⟨k + cntRows (rs.take j), k + cntRows (rs.take j) + 1, marksI (k + cntRows (rs.take j) + 2) r.s.length⟩] := by
  rw [take_snoc h, marksRows_append]; simp [marksRows]
theorem marksRows_at {k : Int} {rs : List RowD} {j : Nat} {r : RowD} (h : rs[j]? = some r) : (marksRows k rs)[j]? = some ⟨k + cntRows (rs.take j), k + cntRows (rs.take j) + 1, marksI (k + cntRows (rs.take j) + 2) r.s.length⟩ := by
  obtain ⟨hj, rfl⟩ := List.getElem?_eq_some_iff.1 h
  have e : rs = rs.take j ++ rs[j] :: rs.drop (j + 1) := by rw [List.getElem_cons_drop, List.take_append_drop]
  have hlen : (marksRows k (rs.take j)).length = j := by rw [marksRows_length, List.length_take]; omega
  have e2 := congrArg (fun l => (marksRows k l)[j]?) e
  rw [e2, marksRows_append, List.getElem?_append_right (by omega), hlen]
  simp [marksRows]


end Go.Proofs.YtifjdiiafofnpaaDoor

/- Structs of a number and a slice: the helpers of the laws. -/
namespace Go.Proofs.YtifjdiiafofnpaaDoor
open Go.RowKit

theorem laws_szColourChart (n : Int) (xs : List (List Int)) (A : Option Addr) (c : Nat) (l : Int) (w : World) (h : Ints2 w A xs) (hl : xs.length ≤ 9223372036854775807) (h0 : 0 ≤ l) (h1 : l ≤ 1048576) :
    Calls Tryd.prog 22 #[.agg #[.int .i64 n, .slice A xs.length c], .int .i64 l] w fun e w' => e = .returned (.int .i64 (szLeft l (sizeII xs : Nat))) ∧ Below w.heap.size w w' := by
  by_cases hz : l < (sizeII xs : Nat)
  · have hz' : szLeft l (sizeII xs : Nat) = -1 := by rw [szLeft, if_pos hz]
    go_enter Tryd.func22, Tryd.ntmps22
    go_wp2_with (fail)
    refine (laws_szInt64SS _ _ _ _ _ (h.below (by (repeat (first | exact Below.refl _ _ | assumption | apply Below.drew | apply below_drewN | (refine Below.alloc ?_ (by first | omega | (simp; done) | (simp; omega)) _) | (refine Below.setCell ?_ (by first | omega | (simp; done) | (simp; omega)) _))))) hl h0 h1).mono ?_; rintro e w2 ⟨rfl, b2⟩
    go_wp2_with (fail)
    go_ret
    exact ⟨ret_int hz'.symm, (Below.trans (by (repeat (first | exact Below.refl _ _ | assumption | apply Below.drew | apply below_drewN | (refine Below.alloc ?_ (by first | omega | (simp; done) | (simp; omega)) _) | (refine Below.setCell ?_ (by first | omega | (simp; done) | (simp; omega)) _)))) (b2.mono (by first | omega | (simp; done) | (simp; omega))))⟩
  · have hz' : szLeft l (sizeII xs : Nat) = l - (sizeII xs : Nat) := by rw [szLeft, if_neg hz]
    have hd : decide (l - ((sizeII xs : Nat) : Int) < 0) = false := decide_eq_false (by omega)
    go_enter Tryd.func22, Tryd.ntmps22
    go_wp2_with (fail)
    refine (laws_szInt64SS _ _ _ _ _ (h.below (by (repeat (first | exact Below.refl _ _ | assumption | apply Below.drew | apply below_drewN | (refine Below.alloc ?_ (by first | omega | (simp; done) | (simp; omega)) _) | (refine Below.setCell ?_ (by first | omega | (simp; done) | (simp; omega)) _))))) hl h0 h1).mono ?_; rintro e w2 ⟨rfl, b2⟩
    go_wp2_with (fail)
    go_ret
    exact ⟨ret_int hz'.symm, (Below.trans (by (repeat (first | exact Below.refl _ _ | assumption | apply Below.drew | apply below_drewN | (refine Below.alloc ?_ (by first | omega | (simp; done) | (simp; omega)) _) | (refine Below.setCell ?_ (by first | omega | (simp; done) | (simp; omega)) _)))) (b2.mono (by first | omega | (simp; done) | (simp; omega))))⟩

theorem laws_toColourChart (n : Int) (xs : List (List Int)) (A : Option Addr) (c : Nat) (w : World) (h : Ints2 w A xs) (hl : sizeII xs ≤ 1048576) :
    Calls Tryd.prog 24 #[.agg #[.int .i64 n, .slice A xs.length c]] w fun e w' => ∃ A' c', e = .returned (.agg #[.int .i64 n, .slice A' xs.length c']) ∧ OwnII w' w.heap.size w'.heap.size A' xs.length c' xs ∧ Below w.heap.size w w' := by
  go_enter Tryd.func24, Tryd.ntmps24
  go_wp2_with (fail)
  refine (laws_toInt64SS xs A c _ (h.below ?hb) hl).mono ?_
  case hb => (repeat (first | exact Below.refl _ _ | assumption | apply Below.drew | apply below_drewN | (refine Below.alloc ?_ (by first | omega | (simp; done) | (simp; omega)) _) | (refine Below.setCell ?_ (by first | omega | (simp; done) | (simp; omega)) _)))
  rintro e w1 ⟨A1, c1, rfl, o1, b1⟩
  simp only [World.size_alloc] at o1 b1
  obtain ⟨hc, hf⟩ := bcell b1
  go_wp2_with (fail)
  refine bodyPost_ret (v := .agg #[.int .i64 n, .slice A1 xs.length c1]) (by simp [results, Tryd.results24, go_sem, hc]) rfl ⟨A1, c1, rfl, ?_, ?_⟩
  · refine OwnII.mono (lo := w.heap.size + 1 + 1 + 1) (hi := w1.heap.size) ?_ (by first | omega | (simp; done) | (simp; omega)) (by first | omega | (simp; done) | (simp; omega))
    repeat (first | assumption | (refine OwnII.far ?_ (by first | omega | (simp; done) | (simp; omega)) _))
  · have b2 : Below w.heap.size w w1 := Below.trans (by (repeat (first | exact Below.refl _ _ | assumption | apply Below.drew | apply below_drewN | (refine Below.alloc ?_ (by first | omega | (simp; done) | (simp; omega)) _) | (refine Below.setCell ?_ (by first | omega | (simp; done) | (simp; omega)) _)))) (b1.mono (by first | omega | (simp; done) | (simp; omega)))
    (repeat (first | exact Below.refl _ _ | assumption | apply Below.drew | apply below_drewN | (refine Below.alloc ?_ (by first | omega | (simp; done) | (simp; omega)) _) | (refine Below.setCell ?_ (by first | omega | (simp; done) | (simp; omega)) _)))

theorem laws_eqColourChart (n n' : Int) (xs ys : List (List Int)) (A B : Option Addr) (c c' : Nat) (w : World) (h : Ints2 w A xs) (h' : Ints2 w B ys) (hl : xs.length ≤ 1000000000000) (hl' : ys.length ≤ 1000000000000) :
    Calls Tryd.prog 26 #[.agg #[.int .i64 n, .slice A xs.length c], .agg #[.int .i64 n', .slice B ys.length c']] w fun e w' => e = .returned (.bool (decide (n = n' ∧ xs = ys))) ∧ Below w.heap.size w w' := by
  by_cases hd : n = n'
  · subst hd
    go_enter Tryd.func26, Tryd.ntmps26
    go_wp2_with (fail)
    refine (laws_eqInt64SS xs ys A B _ _ _ (h.below ?hb1) (h'.below ?hb2) hl hl').mono ?_
    case hb1 => (repeat (first | exact Below.refl _ _ | assumption | apply Below.drew | apply below_drewN | (refine Below.alloc ?_ (by first | omega | (simp; done) | (simp; omega)) _) | (refine Below.setCell ?_ (by first | omega | (simp; done) | (simp; omega)) _)))
    case hb2 => (repeat (first | exact Below.refl _ _ | assumption | apply Below.drew | apply below_drewN | (refine Below.alloc ?_ (by first | omega | (simp; done) | (simp; omega)) _) | (refine Below.setCell ?_ (by first | omega | (simp; done) | (simp; omega)) _)))
    rintro e w2 ⟨rfl, b2⟩
    have b3 : Below w.heap.size w w2 := Below.trans (by (repeat (first | exact Below.refl _ _ | assumption | apply Below.drew | apply below_drewN | (refine Below.alloc ?_ (by first | omega | (simp; done) | (simp; omega)) _) | (refine Below.setCell ?_ (by first | omega | (simp; done) | (simp; omega)) _)))) (b2.mono (by first | omega | (simp; done) | (simp; omega)))
    generalize hq : decide (xs = ys) = q
    have HQ := Lib.hid hq; clear hq
    cases q
    · go_wp2_with (fail)
      go_ret
      exact ⟨ret_bool (by have := HQ.out; simpa using this), b3⟩
    · go_wp2_with (fail)
      go_ret
      exact ⟨ret_bool (by have := HQ.out; simpa using this), b3⟩
  · have hd' : (n != n') = true := by simpa using hd
    go_enter Tryd.func26, Tryd.ntmps26
    go_wp2_with (fail)
    go_ret
    exact ⟨ret_bool (by simp [hd]), by (repeat (first | exact Below.refl _ _ | assumption | apply Below.drew | apply below_drewN | (refine Below.alloc ?_ (by first | omega | (simp; done) | (simp; omega)) _) | (refine Below.setCell ?_ (by first | omega | (simp; done) | (simp; omega)) _)))⟩

theorem laws_markColourChart (n : Int) (xs : List (List Int)) (A : Option Addr) (c : Nat) (k0 : Int) (lo hi : Nat) (w : World) (h : OwnII w lo hi A xs.length c xs) (hk0 : 0 ≤ k0) (hk1 : k0 + (cntII xs : Nat) ≤ 1000000000000) :
    Calls Tryd.prog 29 #[.agg #[.int .i64 n, .slice A xs.length c], .int .i64 k0] w fun e w' => e = .returned (.int .i64 (k0 + (cntII xs : Nat))) ∧ OwnII w' lo hi A xs.length c (marksII k0 xs) ∧ Upd lo hi w w' := by
  go_enter Tryd.func29, Tryd.ntmps29
  go_wp2_with (fail)
  refine (laws_markInt64SS xs A c k0 lo hi _ (h.alloc _) hk0 hk1).mono ?_
  rintro e w1 ⟨rfl, o1, u1⟩
  go_wp2_with (fail)
  go_ret
  exact ⟨rfl, o1, (upd_alloc w _ lo hi).trans u1⟩

theorem laws_heldColourChart (n : Int) (A : Option Addr) (c : Nat) (xs : List (List Int)) (k0 : Int) (w : World) (h : Ints2 w A (marksII k0 xs)) (hk0 : 0 ≤ k0) (hk1 : k0 + (cntII xs : Nat) ≤ 1000000000000) (hl : xs.length ≤ 1000000000000) :
    Calls Tryd.prog 30 #[.agg #[.int .i64 n, .slice A xs.length c], .int .i64 k0] w fun e w' => e = .returned (.int .i64 (k0 + (cntII xs : Nat))) ∧ Below w.heap.size w w' := by
  have hd : decide (k0 + ((cntII xs : Nat) : Int) < 0) = false := decide_eq_false (by omega)
  go_enter Tryd.func30, Tryd.ntmps30
  go_wp2_with (fail)
  refine (laws_heldInt64SS A c xs k0 _ (h.below (by (repeat (first | exact Below.refl _ _ | assumption | apply Below.drew | apply below_drewN | (refine Below.alloc ?_ (by first | omega | (simp; done) | (simp; omega)) _) | (refine Below.setCell ?_ (by first | omega | (simp; done) | (simp; omega)) _))))) hk0 hk1 hl).mono ?_
  rintro e _ ⟨rfl, rfl⟩
  go_wp2_with (fail)
  go_ret
  exact ⟨rfl, by (repeat (first | exact Below.refl _ _ | assumption | apply Below.drew | apply below_drewN | (refine Below.alloc ?_ (by first | omega | (simp; done) | (simp; omega)) _) | (refine Below.setCell ?_ (by first | omega | (simp; done) | (simp; omega)) _)))⟩

theorem laws_szChart (n : Int) (xs : List RowD) (A : Option Addr) (c : Nat) (l : Int) (w : World) (h : RowsR w A xs) (hl : xs.length ≤ 9223372036854775807) (h0 : 0 ≤ l) (h1 : l ≤ 1048576) :
    Calls Tryd.prog 17 #[.agg #[.int .i64 n, .slice A xs.length c], .int .i64 l] w fun e w' => e = .returned (.int .i64 (szLeft l (sizeRows xs : Nat))) ∧ Below w.heap.size w w' := by
  by_cases hz : l < (sizeRows xs : Nat)
  · have hz' : szLeft l (sizeRows xs : Nat) = -1 := by rw [szLeft, if_pos hz]
    go_enter Tryd.func17, Tryd.ntmps17
    go_wp2_with (fail)
    refine (laws_szRowS _ _ _ _ _ (h.below (by (repeat (first | exact Below.refl _ _ | assumption | apply Below.drew | apply below_drewN | (refine Below.alloc ?_ (by first | omega | (simp; done) | (simp; omega)) _) | (refine Below.setCell ?_ (by first | omega | (simp; done) | (simp; omega)) _))))) hl h0 h1).mono ?_; rintro e w2 ⟨rfl, b2⟩
    go_wp2_with (fail)
    go_ret
    exact ⟨ret_int hz'.symm, (Below.trans (by (repeat (first | exact Below.refl _ _ | assumption | apply Below.drew | apply below_drewN | (refine Below.alloc ?_ (by first | omega | (simp; done) | (simp; omega)) _) | (refine Below.setCell ?_ (by first | omega | (simp; done) | (simp; omega)) _)))) (b2.mono (by first | omega | (simp; done) | (simp; omega))))⟩
  · have hz' : szLeft l (sizeRows xs : Nat) = l - (sizeRows xs : Nat) := by rw [szLeft, if_neg hz]
    have hd : decide (l - ((sizeRows xs : Nat) : Int) < 0) = false := decide_eq_false (by omega)
    go_enter Tryd.func17, Tryd.ntmps17
    go_wp2_with (fail)
    refine (laws_szRowS _ _ _ _ _ (h.below (by (repeat (first | exact Below.refl _ _ | assumption | apply Below.drew | apply below_drewN | (refine Below.alloc ?_ (by first | omega | (simp; done) | (simp; omega)) _) | (refine Below.setCell ?_ (by first | omega | (simp; done) | (simp; omega)) _))))) hl h0 h1).mono ?_; rintro e w2 ⟨rfl, b2⟩
    go_wp2_with (fail)
    go_ret
    exact ⟨ret_int hz'.symm, (Below.trans (by (repeat (first | exact Below.refl _ _ | assumption | apply Below.drew | apply below_drewN | (refine Below.alloc ?_ (by first | omega | (simp; done) | (simp; omega)) _) | (refine Below.setCell ?_ (by first | omega | (simp; done) | (simp; omega)) _)))) (b2.mono (by first | omega | (simp; done) | (simp; omega))))⟩

theorem laws_toChart (n : Int) (xs : List RowD) (A : Option Addr) (c : Nat) (w : World) (h : RowsR w A xs) (hl : sizeRows xs ≤ 1048576) :
    Calls Tryd.prog 19 #[.agg #[.int .i64 n, .slice A xs.length c]] w fun e w' => ∃ A' c', e = .returned (.agg #[.int .i64 n, .slice A' xs.length c']) ∧ OwnRows w' w.heap.size w'.heap.size A' xs.length c' xs ∧ Below w.heap.size w w' := by
  go_enter Tryd.func19, Tryd.ntmps19
  go_wp2_with (fail)
  refine (laws_toRowS xs A c _ (h.below ?hb) hl).mono ?_
  case hb => (repeat (first | exact Below.refl _ _ | assumption | apply Below.drew | apply below_drewN | (refine Below.alloc ?_ (by first | omega | (simp; done) | (simp; omega)) _) | (refine Below.setCell ?_ (by first | omega | (simp; done) | (simp; omega)) _)))
  rintro e w1 ⟨A1, c1, rfl, o1, b1⟩
  simp only [World.size_alloc] at o1 b1
  obtain ⟨hc, hf⟩ := bcell b1
  go_wp2_with (fail)
  refine bodyPost_ret (v := .agg #[.int .i64 n, .slice A1 xs.length c1]) (by simp [results, Tryd.results19, go_sem, hc]) rfl ⟨A1, c1, rfl, ?_, ?_⟩
  · refine OwnRows.mono (lo := w.heap.size + 1 + 1 + 1) (hi := w1.heap.size) ?_ (by first | omega | (simp; done) | (simp; omega)) (by first | omega | (simp; done) | (simp; omega))
    repeat (first | assumption | (refine OwnRows.far ?_ (by first | omega | (simp; done) | (simp; omega)) _))
  · have b2 : Below w.heap.size w w1 := Below.trans (by (repeat (first | exact Below.refl _ _ | assumption | apply Below.drew | apply below_drewN | (refine Below.alloc ?_ (by first | omega | (simp; done) | (simp; omega)) _) | (refine Below.setCell ?_ (by first | omega | (simp; done) | (simp; omega)) _)))) (b1.mono (by first | omega | (simp; done) | (simp; omega)))
    (repeat (first | exact Below.refl _ _ | assumption | apply Below.drew | apply below_drewN | (refine Below.alloc ?_ (by first | omega | (simp; done) | (simp; omega)) _) | (refine Below.setCell ?_ (by first | omega | (simp; done) | (simp; omega)) _)))

theorem laws_eqChart (n n' : Int) (xs ys : List RowD) (A B : Option Addr) (c c' : Nat) (w : World) (h : RowsR w A xs) (h' : RowsR w B ys) (hl : xs.length ≤ 1000000000000) (hl' : ys.length ≤ 1000000000000) :
    Calls Tryd.prog 21 #[.agg #[.int .i64 n, .slice A xs.length c], .agg #[.int .i64 n', .slice B ys.length c']] w fun e w' => e = .returned (.bool (decide (n = n' ∧ xs = ys))) ∧ Below w.heap.size w w' := by
  by_cases hd : n = n'
  · subst hd
    go_enter Tryd.func21, Tryd.ntmps21
    go_wp2_with (fail)
    refine (laws_eqRowS xs ys A B _ _ _ (h.below ?hb1) (h'.below ?hb2) hl hl').mono ?_
    case hb1 => (repeat (first | exact Below.refl _ _ | assumption | apply Below.drew | apply below_drewN | (refine Below.alloc ?_ (by first | omega | (simp; done) | (simp; omega)) _) | (refine Below.setCell ?_ (by first | omega | (simp; done) | (simp; omega)) _)))
    case hb2 => (repeat (first | exact Below.refl _ _ | assumption | apply Below.drew | apply below_drewN | (refine Below.alloc ?_ (by first | omega | (simp; done) | (simp; omega)) _) | (refine Below.setCell ?_ (by first | omega | (simp; done) | (simp; omega)) _)))
    rintro e w2 ⟨rfl, b2⟩
    have b3 : Below w.heap.size w w2 := Below.trans (by (repeat (first | exact Below.refl _ _ | assumption | apply Below.drew | apply below_drewN | (refine Below.alloc ?_ (by first | omega | (simp; done) | (simp; omega)) _) | (refine Below.setCell ?_ (by first | omega | (simp; done) | (simp; omega)) _)))) (b2.mono (by first | omega | (simp; done) | (simp; omega)))
    generalize hq : decide (xs = ys) = q
    have HQ := Lib.hid hq; clear hq
    cases q
    · go_wp2_with (fail)
      go_ret
      exact ⟨ret_bool (by have := HQ.out; simpa using this), b3⟩
    · go_wp2_with (fail)
      go_ret
      exact ⟨ret_bool (by have := HQ.out; simpa using this), b3⟩
  · have hd' : (n != n') = true := by simpa using hd
    go_enter Tryd.func21, Tryd.ntmps21
    go_wp2_with (fail)
    go_ret
    exact ⟨ret_bool (by simp [hd]), by (repeat (first | exact Below.refl _ _ | assumption | apply Below.drew | apply below_drewN | (refine Below.alloc ?_ (by first | omega | (simp; done) | (simp; omega)) _) | (refine Below.setCell ?_ (by first | omega | (simp; done) | (simp; omega)) _)))⟩


end Go.Proofs.YtifjdiiafofnpaaDoor

/- Slices of Piece: how they are read and owned, and the helpers of the laws on them. -/
namespace Go.Proofs.YtifjdiiafofnpaaDoor
open Go.RowKit

structure PieceD where
  kind : Int
  times : Int
  len : Int
instance : DecidableEq PieceD := fun a b => decidable_of_iff (a.kind = b.kind ∧ a.times = b.times ∧ a.len = b.len) ⟨fun h => by cases a; cases b; simp_all, fun h => by simp [h]⟩
def cellsPiece : List PieceD → List Value
  | [] => []
  | p :: ps => .int .i64 p.kind :: .int .i64 p.times :: .int .i64 p.len :: cellsPiece ps

theorem cellsPiece_length (ps : List PieceD) : (cellsPiece ps).length = ps.length * 3 := by
  induction ps with
  | nil => rfl
  | cons p ps ih => simp [cellsPiece, ih]; omega
theorem cellsPiece_snoc (ps : List PieceD) (p : PieceD) : cellsPiece (ps ++ [p]) = cellsPiece ps ++ [.int .i64 p.kind, .int .i64 p.times, .int .i64 p.len] := by
  induction ps with
  | nil => rfl
  | cons q ps ih => simp [cellsPiece, ih]
theorem cellsPiece_at {ps : List PieceD} {i : Nat} {p : PieceD} (h : ps[i]? = some p) : (cellsPiece ps)[i * 3]? = some (.int .i64 p.kind) ∧ (cellsPiece ps)[i * 3 + 1]? = some (.int .i64 p.times) ∧ (cellsPiece ps)[i * 3 + 2]? = some (.int .i64 p.len) := by
  induction ps generalizing i with
  | nil => simp at h
  | cons q ps ih =>
    cases i with
    | zero =>
      simp at h
      subst h
      simp [cellsPiece]
    | succ i =>
      have := ih (i := i) (by simpa using h)
      simp only [Nat.succ_mul, cellsPiece]
      simpa [Nat.add_right_comm] using this
def Pieces (w : World) (A : Option Addr) (ps : List PieceD) : Prop :=
  ∀ k, k < ps.length → ∃ b off p, A = some ⟨b, off, none⟩ ∧ ps[k]? = some p ∧ w.cell? ⟨b, off + k * 3, none⟩ = some (.int .i64 p.kind) ∧ w.cell? ⟨b, off + k * 3 + 1, none⟩ = some (.int .i64 p.times) ∧ w.cell? ⟨b, off + k * 3 + 2, none⟩ = some (.int .i64 p.len)
theorem Pieces.of_cells {w w' : World} {A : Option Addr} {ps : List PieceD} (h : Pieces w A ps) (hk : ∀ a v, w.cell? a = some v → w'.cell? a = some v) : Pieces w' A ps :=
  fun k hk' => by
    obtain ⟨b, off, p, hA, hp, h0, h1, h2⟩ := h k hk'
    exact ⟨b, off, p, hA, hp, hk _ _ h0, hk _ _ h1, hk _ _ h2⟩
theorem Pieces.below {w w' : World} {A : Option Addr} {ps : List PieceD} (h : Pieces w A ps) (hb : Below w.heap.size w w') : Pieces w' A ps := h.of_cells (cells_below hb)
theorem Pieces.drewN {w : World} {A : Option Addr} {ps : List PieceD} (h : Pieces w A ps) (n : Nat) : Pieces (w.drewN n) A ps := h
theorem Pieces.nil {w : World} {A : Option Addr} : Pieces w A [] := fun k hk => by simp at hk

/-- A slice of Piece that is the call's own. -/
abbrev OwnPiece (w : World) (lo hi : Nat) (A : Option Addr) (c : Nat) (ps : List PieceD) : Prop := OwnC w lo hi 61 3 A ps.length c (cellsPiece ps)
theorem OwnC.pieces {w : World} {lo hi n : Nat} {A : Option Addr} {c : Nat} {ps : List PieceD} (h : OwnC w lo hi 61 3 A n c (cellsPiece ps)) : Pieces w A ps := by
  intro k hk
  have hp : ps[k]? = some ps[k] := List.getElem?_eq_getElem hk
  obtain ⟨e0, e1, e2⟩ := cellsPiece_at hp
  have hl := cellsPiece_length ps
  have hk3 : k * 3 + 2 < ps.length * 3 := by omega
  obtain ⟨g0, hA0, _, _, c0, _⟩ := h.cell (j := k * 3) (by omega)
  rw [List.getElem?_eq_getElem (by omega)] at e0
  injection e0 with e0
  rw [e0] at c0
  subst hA0
  obtain ⟨g1, hA1, _, _, c1, _⟩ := h.cell (j := k * 3 + 1) (by omega)
  rw [List.getElem?_eq_getElem (by omega)] at e1
  injection e1 with e1
  rw [e1] at c1
  injection hA1 with hA1
  injection hA1 with hA1
  subst hA1
  obtain ⟨g2, hA2, _, _, c2, _⟩ := h.cell (j := k * 3 + 2) (by omega)
  rw [List.getElem?_eq_getElem (by omega)] at e2
  injection e2 with e2
  rw [e2] at c2
  injection hA2 with hA2
  injection hA2 with hA2
  subst hA2
  exact ⟨g0, 0, ps[k], rfl, hp, by simpa using c0, by simpa using c1, by simpa using c2⟩
theorem info_Piece : (Tryd.prog.info? 61).map (fun i => (i.zero, i.size, i.bytes)) = some (some (.agg #[.int .i64 0, .int .i64 0, .int .i64 0]), 3, 24) := by kernel_rfl

theorem laws_szPieceS (A : Option Addr) (n c : Nat) (l : Int) (w : World) (hl : n ≤ 9223372036854775807) (h0 : 0 ≤ l) (h1 : l ≤ 1048576) : Calls Tryd.prog 12 #[.slice A n c, .int .i64 l] w fun e w' => e = .returned (.int .i64 (szLeft l n)) ∧ w = w' := by
  by_cases h : l < n
  · go_enter Tryd.func12, Tryd.ntmps12
    go_wp2
    go_ret
    exact ⟨ret_int (by rw [szLeft, if_pos (by assumption)]), rfl⟩
  · go_enter Tryd.func12, Tryd.ntmps12
    go_wp2
    go_ret
    exact ⟨ret_int (by rw [szLeft, if_neg (by omega)]), rfl⟩

theorem laws_toPiece (x0 x1 x2 : Int) (w : World) : Calls Tryd.prog 37 #[.agg #[.int .i64 x0, .int .i64 x1, .int .i64 x2]] w fun e w' => e = .returned (.agg #[.int .i64 x0, .int .i64 x1, .int .i64 x2]) ∧ Below w.heap.size w w' := by
  go_enter Tryd.func37, Tryd.ntmps37
  go_wp2_with (fail)
  refine bodyPost_ret (v := .agg #[.int .i64 x0, .int .i64 x1, .int .i64 x2]) (by simp [results, Tryd.results37, go_sem]) rfl ⟨rfl, by (repeat (first | exact Below.refl _ _ | assumption | apply Below.drew | apply below_drewN | (refine Below.alloc ?_ (by first | omega | (simp; done) | (simp; omega)) _) | (refine Below.setCell ?_ (by first | omega | (simp; done) | (simp; omega)) _)))⟩

set_option maxHeartbeats 1000000 in
theorem laws_toPieceS (A : Option Addr) (c : Nat) (ps : List PieceD) (w : World) (h : Pieces w A ps) (hl : ps.length ≤ 1048576) :
    Calls Tryd.prog 14 #[.slice A ps.length c] w fun e w' => ∃ A' c', e = .returned (.slice A' ps.length c') ∧ OwnPiece w' w.heap.size w'.heap.size A' c' ps ∧ Below w.heap.size w w' := by
  obtain ⟨i0, hi0, hz0, hz1, hz2⟩ := info_parts info_Piece
  have hlen : ps.length ≤ 9223372036854775807 := by omega
  go_enter Tryd.func14, Tryd.ntmps14
  go_wp2_with (refine wpList_make_full _ rfl (.tmp 6) (.tmp 6) _ rfl w.heap.size 61 i0 _ 3 Tryd.underlying30 hi0 hz0 hz1 .i64 .i64 _ _ ps.length rfl rfl rfl rfl (by rw [hz2]; omega) (by unfold maxLen; omega) (Nat.le_refl _) ?_; intro w1 hown hg)
  have hb1 : Below w.heap.size w w1 := (Below.refl _ _).grown hg (Nat.le_refl _) (by simp)
  go_loopw [4] (fun i wr => ∃ (k : Nat) (cs : List Value), k ≤ ps.length ∧ i = .int .i64 k ∧ wr.ownsRow w.heap.size 61 3 (.slice (some ⟨w.heap.size, 0, none⟩) ps.length ps.length) ps.length cs ∧ cs.take (k * 3) = cellsPiece (ps.take k) ∧ Below w.heap.size w wr) (fun i _ => ps.length - (intOf i).toNat)
  case atStart => exact ⟨0, _, Nat.zero_le _, rfl, hown, by simp [cellsPiece], hb1⟩
  case round =>
    clear hown hg hb1
    obtain ⟨k, cs, hk, rfl, hown, htk, hb⟩ := hrel
    have hcl : cs.length = ps.length * 3 := hown.1
    have HT := Lib.hid htk; clear htk
    have HC := Lib.hid hcl; clear hcl
    by_cases hlt : k < ps.length
    · obtain ⟨b, off, p, rfl, hp, h0, h1, h2⟩ := h k hlt
      have HP := Lib.hid hp; clear hp
      replace h0 := cells_below hb _ _ h0
      replace h1 := cells_below hb _ _ h1
      replace h2 := cells_below hb _ _ h2
      have hgl : w.heap.size < wr.heap.size := (hown.lt _ rfl).2
      go_wp2_with (fail)
      refine (laws_toPiece _ _ _ _).mono ?_; rintro e w2 ⟨rfl, b2⟩
      have ho2 : OwnC w2 w.heap.size wr.heap.size 61 3 (some ⟨w.heap.size, 0, none⟩) ps.length ps.length cs := (OwnC.of_own hown (Nat.le_refl _)).below b2 (Nat.le_refl _)
      have hb2 := hb.trans (b2.mono hb.size)
      obtain ⟨_, hA0, _, _, q0, f0⟩ := ho2.cell (j := k * 3) (by rw [HC.out]; omega)
      injection hA0 with hA0
      injection hA0 with hA0
      subst hA0
      obtain ⟨_, hA1, _, _, q1, f1⟩ := ho2.cell (j := k * 3 + 1) (by rw [HC.out]; omega)
      injection hA1 with hA1
      injection hA1 with hA1
      subst hA1
      obtain ⟨_, hA2, _, _, q2, f2⟩ := ho2.cell (j := k * 3 + 2) (by rw [HC.out]; omega)
      injection hA2 with hA2
      injection hA2 with hA2
      subst hA2
      go_wp2_with (fail)
      go_roundw
      case rel =>
        refine ⟨k + 1, (((cs.set (k * 3) (.int .i64 p.kind)).set (k * 3 + 1) (.int .i64 p.times)).set (k * 3 + 2) (.int .i64 p.len)), by omega, by go_num, ?_, ?_, by (repeat (first | exact Below.refl _ _ | assumption | apply Below.drew | apply below_drewN | (refine Below.alloc ?_ (by first | omega | (simp; done) | (simp; omega)) _) | (refine Below.setCell ?_ (by first | omega | (simp; done) | (simp; omega)) _)))⟩
        · exact (((ho2.store _).1.store _).1.store _).1.own
        · rw [take_snoc HP.out, cellsPiece_snoc, ← HT.out]
          exact take_set3 cs (k * 3) _ (by rw [Nat.succ_mul]) (by rw [HC.out]; omega) _ _ _
      case measure => simp [intOf]; omega
    · go_wp2
      go_ret
      have : k = ps.length := by omega
      subst this
      have e : cs = cellsPiece ps := by
        have := HT.out
        rwa [take_all (by rw [HC.out]; exact Nat.le_refl _), take_all (Nat.le_refl _)] at this
      subst e
      exact ⟨_, _, rfl, OwnC.of_own hown (Nat.le_refl _), hb⟩

theorem laws_eqPiece (x0 x1 x2 y0 y1 y2 : Int) (w : World) : Calls Tryd.prog 40 #[.agg #[.int .i64 x0, .int .i64 x1, .int .i64 x2], .agg #[.int .i64 y0, .int .i64 y1, .int .i64 y2]] w fun e w' => e = .returned (.bool (decide ((⟨x0, x1, x2⟩ : PieceD) = ⟨y0, y1, y2⟩))) ∧ Below w.heap.size w w' := by
  by_cases e0 : x0 = y0
  · subst e0
    by_cases e1 : x1 = y1
    · subst e1
      by_cases e2 : x2 = y2
      · subst e2
        go_enter Tryd.func40, Tryd.ntmps40
        go_wp2_with (fail)
        go_ret
        exact ⟨ret_bool (by simp), by (repeat (first | exact Below.refl _ _ | assumption | apply Below.drew | apply below_drewN | (refine Below.alloc ?_ (by first | omega | (simp; done) | (simp; omega)) _) | (refine Below.setCell ?_ (by first | omega | (simp; done) | (simp; omega)) _)))⟩
      · have e' : (x2 != y2) = true := by simpa using e2
        go_enter Tryd.func40, Tryd.ntmps40
        go_wp2_with (fail)
        go_ret
        exact ⟨ret_bool (by simp [e2]), by (repeat (first | exact Below.refl _ _ | assumption | apply Below.drew | apply below_drewN | (refine Below.alloc ?_ (by first | omega | (simp; done) | (simp; omega)) _) | (refine Below.setCell ?_ (by first | omega | (simp; done) | (simp; omega)) _)))⟩
    · have e' : (x1 != y1) = true := by simpa using e1
      go_enter Tryd.func40, Tryd.ntmps40
      go_wp2_with (fail)
      go_ret
      exact ⟨ret_bool (by simp [e1]), by (repeat (first | exact Below.refl _ _ | assumption | apply Below.drew | apply below_drewN | (refine Below.alloc ?_ (by first | omega | (simp; done) | (simp; omega)) _) | (refine Below.setCell ?_ (by first | omega | (simp; done) | (simp; omega)) _)))⟩
  · have e' : (x0 != y0) = true := by simpa using e0
    go_enter Tryd.func40, Tryd.ntmps40
    go_wp2_with (fail)
    go_ret
    exact ⟨ret_bool (by simp [e0]), by (repeat (first | exact Below.refl _ _ | assumption | apply Below.drew | apply below_drewN | (refine Below.alloc ?_ (by first | omega | (simp; done) | (simp; omega)) _) | (refine Below.setCell ?_ (by first | omega | (simp; done) | (simp; omega)) _)))⟩

set_option maxHeartbeats 2000000 in
theorem laws_eqPieceS (A B : Option Addr) (c d : Nat) (ps qs : List PieceD) (w : World) (h : Pieces w A ps) (h' : Pieces w B qs) (hl : ps.length ≤ 1000000000000) (_hl' : qs.length ≤ 1000000000000) :
    Calls Tryd.prog 16 #[.slice A ps.length c, .slice B qs.length d] w fun e w' => e = .returned (.bool (decide (ps = qs))) ∧ Below w.heap.size w w' := by
  by_cases hle : ps.length = qs.length
  · have HL := Lib.hid hle
    have hle' : ((ps.length : Int) != (qs.length : Int)) = false := by simp [hle]
    clear hle
    go_enter Tryd.func16, Tryd.ntmps16
    go_wp2
    go_loopw [5] (fun i wr => ∃ (k : Nat), k ≤ ps.length ∧ i = .int .i64 k ∧ ps.take k = qs.take k ∧ Below w.heap.size w wr) (fun i _ => ps.length - (intOf i).toNat)
    case atStart => exact ⟨0, Nat.zero_le _, rfl, rfl, Below.refl _ _⟩
    case round =>
      obtain ⟨k, hk, rfl, htk, hb⟩ := hrel
      have HT := Lib.hid htk; clear htk
      by_cases hlt : k < ps.length
      · have hlt' : k < qs.length := by rw [← HL.out]; exact hlt
        obtain ⟨b, off, p, rfl, hp, h0, h1, h2⟩ := h k hlt
        obtain ⟨b', off', q, rfl, hq, h0', h1', h2'⟩ := h' k hlt'
        have HP := Lib.hid hp; clear hp
        have HQ := Lib.hid hq; clear hq
        replace h0 := cells_below hb _ _ h0
        replace h0' := cells_below hb _ _ h0'
        replace h1 := cells_below hb _ _ h1
        replace h1' := cells_below hb _ _ h1'
        replace h2 := cells_below hb _ _ h2
        replace h2' := cells_below hb _ _ h2'
        have j1 : (0 : Int) ≤ (k : Int) := by omega
        have j2 : (k : Int) < (ps.length : Int) := by omega
        have j3 : (k : Int) < (qs.length : Int) := by omega
        by_cases hpq : p = q
        · subst hpq
          go_wp2_with (fail)
          go_region_held3 (fun W' => (W'.cell? ⟨b, off + k * 3, none⟩ = some (.int .i64 p.kind) ∧ W'.cell? ⟨b, off + k * 3 + 1, none⟩ = some (.int .i64 p.times) ∧ W'.cell? ⟨b, off + k * 3 + 2, none⟩ = some (.int .i64 p.len)) ∧ (W'.cell? ⟨b', off' + k * 3, none⟩ = some (.int .i64 p.kind) ∧ W'.cell? ⟨b', off' + k * 3 + 1, none⟩ = some (.int .i64 p.times) ∧ W'.cell? ⟨b', off' + k * 3 + 2, none⟩ = some (.int .i64 p.len))) (first | exact ⟨⟨h0, h1, h2⟩, h0', h1', h2'⟩ | exact ⟨⟨cells_below b2 _ _ h0, cells_below b2 _ _ h1, cells_below b2 _ _ h2⟩, cells_below b2 _ _ h0', cells_below b2 _ _ h1', cells_below b2 _ _ h2'⟩)
            (first | (go_at_call 40; refine (laws_eqPiece _ _ _ _ _ _ _).mono ?_; rintro e w2 ⟨rfl, b2⟩; replace b2 := undrew b2))
          go_wp2_with (fail)
          go_roundw
          case rel => exact ⟨k + 1, by omega, by go_num, by rw [take_snoc HP.out, take_snoc HQ.out, HT.out], hb.trans (b2.mono hb.size)⟩
          case measure => simp [intOf]; omega
        · have hpq' : decide (p = q) = false := decide_eq_false hpq
          go_wp2_with (fail)
          go_region_held3 (fun W' => (W'.cell? ⟨b, off + k * 3, none⟩ = some (.int .i64 p.kind) ∧ W'.cell? ⟨b, off + k * 3 + 1, none⟩ = some (.int .i64 p.times) ∧ W'.cell? ⟨b, off + k * 3 + 2, none⟩ = some (.int .i64 p.len)) ∧ (W'.cell? ⟨b', off' + k * 3, none⟩ = some (.int .i64 q.kind) ∧ W'.cell? ⟨b', off' + k * 3 + 1, none⟩ = some (.int .i64 q.times) ∧ W'.cell? ⟨b', off' + k * 3 + 2, none⟩ = some (.int .i64 q.len))) (first | exact ⟨⟨h0, h1, h2⟩, h0', h1', h2'⟩ | exact ⟨⟨cells_below b2 _ _ h0, cells_below b2 _ _ h1, cells_below b2 _ _ h2⟩, cells_below b2 _ _ h0', cells_below b2 _ _ h1', cells_below b2 _ _ h2'⟩)
            (first | (go_at_call 40; refine (laws_eqPiece _ _ _ _ _ _ _).mono ?_; rintro e w2 ⟨rfl, b2⟩; replace b2 := undrew b2))
          go_wp2_with (fail)
          go_ret
          exact ⟨ret_bool (by simpa using ne_of_getElem? HP.out HQ.out hpq), hb.trans (b2.mono hb.size)⟩
      · go_wp2
        go_ret
        have : k = ps.length := by omega
        subst this
        have e := HT.out
        rw [take_all (Nat.le_refl _), take_all (by rw [HL.out]; exact Nat.le_refl _)] at e
        exact ⟨ret_bool (by simpa using e), hb⟩
  · have hle' : ((ps.length : Int) != (qs.length : Int)) = true := by simp; omega
    go_enter Tryd.func16, Tryd.ntmps16
    go_wp2
    go_ret
    exact ⟨ret_bool (by simp; intro e; exact hle (by rw [e])), Below.refl _ _⟩

def marksPiece (k : Int) (m : Nat) : List PieceD := (List.range m).map fun (i : Nat) => ⟨k + 3 * i, k + 3 * i + 1, k + 3 * i + 2⟩
theorem marksPiece_length (k : Int) (m : Nat) : (marksPiece k m).length = m := by simp [marksPiece]
theorem marksPiece_snoc (k : Int) (m : Nat) : marksPiece k (m + 1) = marksPiece k m ++ [⟨k + 3 * m, k + 3 * m + 1, k + 3 * m + 2⟩] := by simp [marksPiece, List.range_succ]
theorem marksPiece_at {k : Int} {m i : Nat} {p : PieceD} (h : (marksPiece k m)[i]? = some p) : p = ⟨k + 3 * i, k + 3 * i + 1, k + 3 * i + 2⟩ := by
  simp only [marksPiece, List.getElem?_map, Option.map_eq_some_iff] at h
  obtain ⟨j, hj, rfl⟩ := h
  obtain ⟨hl, he⟩ := List.getElem?_eq_some_iff.1 hj
  simp at he
  subst he
  rfl


end Go.Proofs.YtifjdiiafofnpaaDoor

/- Arguments of the laws, opened: slices of slices, of rows, of pieces. -/
namespace Go.Proofs.YtifjdiiafofnpaaDoor
open Go.ChangeShapes Go.WideShapes Go.ChangeAt Go.RowKit
open Go.ChangeMaps (open_string shut_string)

section
variable {H : Type} {enc : TypeId × Value → H} {W : World} {base : Nat} {v : Value} {d : DataW H} {p : List MemPlace} {fuel : Nat} {cs : List Value} {x : DataW H × List MemPlace} {b0 : Nat}

theorem collect {α : Type} {P : Nat → α → Prop} (n : Nat) (h : ∀ i, i < n → ∃ x, P i x) : ∃ l : List α, l.length = n ∧ ∀ i x, l[i]? = some x → P i x := by
  induction n with
  | zero => exact ⟨[], rfl, fun i x h => by simp at h⟩
  | succ n ih =>
    obtain ⟨l, h1, h2⟩ := ih fun i hi => h i (by omega)
    obtain ⟨x, hx⟩ := h n (by omega)
    refine ⟨l ++ [x], by simp [h1], fun i y hy => ?_⟩
    by_cases hi' : i < n
    · exact h2 i y (by rw [List.getElem?_append_left (by omega)] at hy; exact hy)
    · rw [List.getElem?_append_right (by omega), h1] at hy
      obtain rfl : i = n := by
        have := (List.getElem?_eq_some_iff.1 hy).1
        simp at this; omega
      simp at hy
      subst hy
      exact hx

/-- A slice that came in: the cells of each element, and their reading. -/
theorem slice_rows {t e : TypeId} {sz : Nat} (ht : Tryd.prog.underlying t = some (.slice e)) (hC : Tryd.prog.cellsOf e = sz) (hsz : 0 < sz) (h : DataW.trod enc Tryd.prog W b0 (fun _ => true) true fuel t cs = some x) :
    ∃ A len cap n, cs = [.slice A len cap] ∧ len ≤ 9223372036854775807 ∧ ∀ i, i < len → ∃ b off cs' y, A = some ⟨b, off, none⟩ ∧ cs'.length = sz ∧ (∀ j, j < sz → W.cell? ⟨b, off + i * sz + j, none⟩ = cs'[j]?) ∧ DataW.trod enc Tryd.prog W b0 (fun _ => true) true n e cs' = some y := by
  rcases Go.Deep.open_slice ht h with ⟨hcs, _⟩ | ⟨a, len, cap, m, n, D, Pl, hcs, _, hl, hm, hmm, _, hi⟩
  · exact ⟨none, 0, 0, 0, hcs, Nat.zero_le _, fun i hi => absurd hi (Nat.not_lt_zero _)⟩
  · simp only [if_true] at hmm
    rw [hC] at hi
    refine ⟨some a, len, cap, n, hcs, by unfold maxLen at hm; omega, fun i hil => ?_⟩
    obtain ⟨cs', hc, ht⟩ := hi i (by omega)
    obtain ⟨_, hcl, hat⟩ := World.cells?_some hc
    obtain ⟨cs0, hc0, _⟩ := hi 0 (by omega)
    obtain ⟨_, hcl0, hat0⟩ := World.cells?_some hc0
    have h00 := hat0 0 (by omega)
    rw [List.getElem?_eq_getElem (by omega)] at h00
    have ha : a = ⟨a.block, a.off, none⟩ := addr_of_cell (w := W) (v := cs0[0]'(by omega)) (by simpa [Addr.add] using h00)
    refine ⟨a.block, a.off, cs', _, by rw [← ha], hcl, fun j hj => ?_, ht⟩
    have := hat j hj
    rw [ha, add_form, add_form] at this
    exact this

theorem trod_ints2 (h : DataW.trod enc Tryd.prog W b0 (fun _ => true) true fuel 45 cs = some x) :
    ∃ A c xss, cs = [.slice A xss.length c] ∧ Ints2 W A xss ∧ xss.length ≤ 9223372036854775807 := by
  obtain ⟨A, len, cap, n, rfl, hl, hi⟩ := slice_rows Tryd.underlying45 (sz := 1) (by kernel_rfl) (by decide) h
  obtain ⟨xss, rfl, hx⟩ := collect (P := fun i (xs : List Int) => ∃ b off A' c', A = some ⟨b, off, none⟩ ∧ W.cell? ⟨b, off + i, none⟩ = some (.slice A' xs.length c') ∧ Ints W A' xs ∧ xs.length ≤ 9223372036854775807) len fun i hil => by
    obtain ⟨b, off, cs', y, rfl, hcl, hat, ht⟩ := hi i hil
    obtain ⟨A', c', xs, rfl, h1, h2⟩ := trod_ints ht
    exact ⟨xs, b, off, A', c', rfl, by simpa using hat 0 (by decide), h1, h2⟩
  refine ⟨A, cap, xss, rfl, fun k hk => ?_, hl⟩
  obtain ⟨b, off, A', c', h1, h2, h3, h4⟩ := hx k _ (List.getElem?_eq_getElem hk)
  exact ⟨b, off, A', c', xss[k], h1, List.getElem?_eq_getElem hk, h2, h3, h4⟩

set_option maxRecDepth 100000 in
theorem trod_rows (h : DataW.trod enc Tryd.prog W b0 (fun _ => true) true fuel 34 cs = some x) :
    ∃ A c rs, cs = [.slice A rs.length c] ∧ RowsR W A rs ∧ rs.length ≤ 9223372036854775807 := by
  obtain ⟨A, len, cap, n, rfl, hl, hi⟩ := slice_rows Tryd.underlying34 (sz := 3) (by kernel_rfl) (by decide) h
  obtain ⟨rs, rfl, hx⟩ := collect (P := fun i (r : RowD) => ∃ b off A' c', A = some ⟨b, off, none⟩ ∧ W.cell? ⟨b, off + i * 3, none⟩ = some (.int .i64 r.d) ∧ W.cell? ⟨b, off + i * 3 + 1, none⟩ = some (.int .i64 r.r) ∧ W.cell? ⟨b, off + i * 3 + 2, none⟩ = some (.slice A' r.s.length c') ∧ Ints W A' r.s ∧ r.s.length ≤ 9223372036854775807) len fun i hil => by
    obtain ⟨b, off, cs', y, rfl, hcl, hat, ht⟩ := hi i hil
    obtain ⟨ys, n', _, _, _, hyl, hf⟩ := DataW.trod_struct Tryd.underlying98 ht
    have c1 : Tryd.prog.cellsOf 2 = 1 := by kernel_rfl
    have c2 : Tryd.prog.cellsOf 22 = 1 := by kernel_rfl
    match cs', hcl, ys, hyl with
    | [z0, z1, z2], _, [u0, u1, u2], _ =>
      have f0 := hf 0 _ rfl
      have f1 := hf 1 _ rfl
      have f2 := hf 2 _ rfl
      simp [c1, c2] at f0 f1 f2
      obtain ⟨a0, e0, _, _⟩ := DataW.trod_int Tryd.underlying2 f0
      obtain ⟨a1, e1, _, _⟩ := DataW.trod_int Tryd.underlying2 f1
      obtain ⟨A', c', xs, e2, h1, h2⟩ := trod_ints f2
      simp at e0 e1 e2
      subst e0 e1 e2
      exact ⟨⟨a0, a1, xs⟩, b, off, A', c', rfl, by simpa using hat 0 (by decide), by simpa using hat 1 (by decide), by simpa using hat 2 (by decide), h1, h2⟩
  refine ⟨A, cap, rs, rfl, fun k hk => ?_, hl⟩
  obtain ⟨b, off, A', c', h1, h2, h3, h4, h5, h6⟩ := hx k _ (List.getElem?_eq_getElem hk)
  exact ⟨b, off, A', c', rs[k], h1, List.getElem?_eq_getElem hk, h2, h3, h4, h5, h6⟩

set_option maxRecDepth 100000 in
theorem open_Colour (hv : Value.okWide Tryd.prog W .any base 47 v) (h : DataW.Trod enc Tryd.prog W 0 (fun _ => true) true 47 v d p) :
    ∃ n A c xs, v = .agg #[.int .i64 n, .slice A xs.length c] ∧ Ints2 W A xs ∧ xs.length ≤ 9223372036854775807 := by
  obtain ⟨v0, v1, y0, y1, n, rfl, _, _, h0, h1⟩ := Go.Joins.open_agg2 Tryd.underlying47 (by kernel_rfl) (by kernel_rfl) hv h
  obtain ⟨a, e0, _, _⟩ := DataW.trod_int Tryd.underlying2 h0
  obtain ⟨A, c, xs, e2, hi, hl⟩ := trod_ints2 h1
  simp at e0 e2
  subst e0 e2
  exact ⟨a, A, c, xs, rfl, hi, hl⟩

set_option maxRecDepth 100000 in
theorem open_Chart (hv : Value.okWide Tryd.prog W .any base 36 v) (h : DataW.Trod enc Tryd.prog W 0 (fun _ => true) true 36 v d p) :
    ∃ n A c xs, v = .agg #[.int .i64 n, .slice A xs.length c] ∧ RowsR W A xs ∧ xs.length ≤ 9223372036854775807 := by
  obtain ⟨v0, v1, y0, y1, n, rfl, _, _, h0, h1⟩ := Go.Joins.open_agg2 Tryd.underlying36 (by kernel_rfl) (by kernel_rfl) hv h
  obtain ⟨a, e0, _, _⟩ := DataW.trod_int Tryd.underlying2 h0
  obtain ⟨A, c, xs, e2, hi, hl⟩ := trod_rows h1
  simp at e0 e2
  subst e0 e2
  exact ⟨a, A, c, xs, rfl, hi, hl⟩

set_option maxRecDepth 100000 in
theorem open_Pieces (hv : Value.okWide Tryd.prog W .any base 27 v) (h : DataW.Trod enc Tryd.prog W 0 (fun _ => true) true 27 v d p) :
    ∃ A c xs, v = .slice A xs.length c ∧ Pieces W A xs ∧ xs.length ≤ 9223372036854775807 := by
  obtain ⟨A0, n0, c0, rfl⟩ := okWide_slice Tryd.underlying27 hv
  obtain ⟨fuel, hf⟩ := h
  obtain ⟨A, len, cap, n, hcs, hl, hi⟩ := slice_rows Tryd.underlying27 (sz := 3) (by kernel_rfl) (by decide) hf
  simp [Value.cells] at hcs
  obtain ⟨rfl, rfl, rfl⟩ := hcs
  obtain ⟨ps, rfl, hx⟩ := collect (P := fun i (p : PieceD) => ∃ b off, A0 = some ⟨b, off, none⟩ ∧ W.cell? ⟨b, off + i * 3, none⟩ = some (.int .i64 p.kind) ∧ W.cell? ⟨b, off + i * 3 + 1, none⟩ = some (.int .i64 p.times) ∧ W.cell? ⟨b, off + i * 3 + 2, none⟩ = some (.int .i64 p.len)) n0 fun i hil => by
    obtain ⟨b, off, cs', y, rfl, hcl, hat, ht⟩ := hi i hil
    obtain ⟨ys, n', _, _, _, hyl, hf⟩ := DataW.trod_struct Tryd.underlying63 ht
    have c1 : Tryd.prog.cellsOf 2 = 1 := by kernel_rfl
    match cs', hcl, ys, hyl with
    | [z0, z1, z2], _, [u0, u1, u2], _ =>
      have f0 := hf 0 _ rfl
      have f1 := hf 1 _ rfl
      have f2 := hf 2 _ rfl
      simp [c1] at f0 f1 f2
      obtain ⟨a0, e0, _, _⟩ := DataW.trod_int Tryd.underlying2 f0
      obtain ⟨a1, e1, _, _⟩ := DataW.trod_int Tryd.underlying2 f1
      obtain ⟨a2, e2, _, _⟩ := DataW.trod_int Tryd.underlying2 f2
      simp at e0 e1 e2
      subst e0 e1 e2
      exact ⟨⟨a0, a1, a2⟩, b, off, rfl, by simpa using hat 0 (by decide), by simpa using hat 1 (by decide), by simpa using hat 2 (by decide)⟩
  refine ⟨A0, c0, ps, rfl, fun k hk => ?_, hl⟩
  obtain ⟨b, off, h1, h2, h3, h4⟩ := hx k _ (List.getElem?_eq_getElem hk)
  exact ⟨b, off, ps[k], h1, List.getElem?_eq_getElem hk, h2, h3, h4⟩

end

end Go.Proofs.YtifjdiiafofnpaaDoor

/- Calls of functions that change nothing, in regions that draw. -/
namespace Go.Proofs.YtifjdiiafofnpaaDoor
open Go.RowKit

theorem quietS {P : Program} {f : FuncId} {args : Array Value} {w : World} {n : Nat} {v : Value}
    (h : Calls P f args (w.drewN n) fun e w' => e = .returned v ∧ w.drewN n = w') : Calls P f args (w.drewN n) fun e w'' => e = .returned v ∧ ∃ m, w'' = w.drewN m :=
  h.mono fun _ _ ⟨he, hm⟩ => ⟨he, n, hm.symm⟩

end Go.Proofs.YtifjdiiafofnpaaDoor
