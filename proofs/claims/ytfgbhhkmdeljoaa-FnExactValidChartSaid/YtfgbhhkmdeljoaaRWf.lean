/- Slices of rows: the helpers of the laws. -/
import Derived.Test.YtfgbhhkmdeljoaaRW
namespace Go.Proofs.Ytfgbhhkmdeljoaa
open Go.RowKit

set_option maxHeartbeats 1000000 in
theorem laws_szRowS (rs : List RowD) (A : Option Addr) (c : Nat) (l0 : Int) (w : World) (h : RowsR w A rs) (hl : rs.length ≤ 9223372036854775807) (h0 : 0 ≤ l0) (h1 : l0 ≤ 1048576) :
    Calls Try.prog 55 #[.slice A rs.length c, .int .i64 l0] w fun e w' => e = .returned (.int .i64 (szLeft l0 (sizeRows rs : Nat))) ∧ Below w.heap.size w w' := by
  by_cases hn : l0 < rs.length
  · have HF : Hid (szLeft l0 (sizeRows rs : Nat) = -1) := Lib.hid (by rw [szLeft, if_pos]; unfold sizeRows; omega)
    have hd : decide (l0 - (rs.length : Int) < 0) = true := decide_eq_true (by omega)
    go_enter Try.func55, Try.ntmps55
    go_wp2_with (fail)
    go_ret
    exact ⟨ret_int HF.out.symm, Below.refl _ _⟩
  · have hd : decide (l0 - (rs.length : Int) < 0) = false := decide_eq_false (by omega)
    go_enter Try.func55, Try.ntmps55
    go_wp2_with (fail)
    go_loopw [1, 5] (fun lv i wr => ∃ (k : Nat), k ≤ rs.length ∧ i = .int .i64 k ∧ lv = .int .i64 (l0 - rs.length - (lenRows (rs.take k) : Nat)) ∧ (lenRows (rs.take k) : Nat) ≤ l0 - rs.length ∧ Below w.heap.size w wr) (fun _ i _ => rs.length - (intOf i).toNat)
    case atStart => exact ⟨0, Nat.zero_le _, rfl, by simp [lenRows], by simp [lenRows]; omega, Below.refl _ _⟩
    case round =>
      obtain ⟨k, hk, rfl, rfl, hle, hb⟩ := hrel
      by_cases hlt : k < rs.length
      · obtain ⟨b, off, A', c', r, rfl, hx, q0, q1, q2, hi, hxl⟩ := (h.below hb) k hlt
        have hs := lenRows_snoc hx
        have hat := lenRows_at hx
        have HS := Lib.hid hs; clear hs
        have HX := Lib.hid hx; clear hx
        by_cases hz : l0 - rs.length - (lenRows (rs.take k) : Nat) < r.s.length
        · have hsz : szLeft (l0 - rs.length - (lenRows (rs.take k) : Nat)) r.s.length = -1 := by rw [szLeft, if_pos hz]
          go_wp2_with (fail)
          refine (laws_szRow _ _ _ _ _ _ _ hxl (by omega) (by omega)).mono ?_; rintro e w2 ⟨rfl, b2⟩
          go_wp2_with (fail)
          go_ret
          exact ⟨ret_int (by rw [szLeft, if_pos]; unfold sizeRows; omega), hb.trans (b2.mono hb.size)⟩
        · have hsz : szLeft (l0 - rs.length - (lenRows (rs.take k) : Nat)) r.s.length = l0 - rs.length - (lenRows (rs.take k) : Nat) - r.s.length := by rw [szLeft, if_neg hz]
          have hd2 : decide (l0 - rs.length - (lenRows (rs.take k) : Nat) - (r.s.length : Int) < 0) = false := decide_eq_false (by omega)
          go_wp2_with (fail)
          refine (laws_szRow _ _ _ _ _ _ _ hxl (by omega) (by omega)).mono ?_; rintro e w2 ⟨rfl, b2⟩
          go_wp2_with (fail)
          go_roundw
          case rel => exact ⟨k + 1, by omega, by go_num, int_eq (by rw [HS.out]; omega), by rw [HS.out]; omega, hb.trans (b2.mono hb.size)⟩
          case measure => simp [intOf]; omega
      · go_wp2_with (fail)
        go_ret
        refine ⟨ret_int ?_, hb⟩
        rw [take_all (by omega)] at hle ⊢
        rw [szLeft, if_neg]
        · unfold sizeRows; omega
        · unfold sizeRows; omega

set_option maxHeartbeats 2000000 in
theorem laws_toRowS (rs : List RowD) (A : Option Addr) (c : Nat) (w : World) (h : RowsR w A rs) (hl : sizeRows rs ≤ 1048576) :
    Calls Try.prog 57 #[.slice A rs.length c] w fun e w' => ∃ A' c', e = .returned (.slice A' rs.length c') ∧ OwnRows w' w.heap.size w'.heap.size A' rs.length c' rs ∧ Below w.heap.size w w' := by
  obtain ⟨i0, hi0, hz0, hz1, hz2⟩ := info_parts info_Row
  have hlen : rs.length ≤ 1048576 := by unfold sizeRows at hl; omega
  go_enter Try.func57, Try.ntmps57
  go_wp2_with (refine wpList_make_full _ rfl (.tmp 6) (.tmp 6) _ rfl w.heap.size 60 i0 _ 3 Try.underlying27 hi0 hz0 hz1 .i64 .i64 _ _ rs.length rfl rfl rfl rfl (by rw [hz2]; omega) (by unfold maxLen; omega) (Nat.le_refl _) ?_; intro w1 hown hg)
  have hb1 : Below w.heap.size w w1 := (Below.refl _ _).grown hg (Nat.le_refl _) (by simp)
  go_loopw [4] (fun i wr => ∃ (k : Nat) (cs : List Value) (ds : List RowD), k ≤ rs.length ∧ i = .int .i64 k ∧ OwnC wr w.heap.size wr.heap.size 60 3 (some ⟨w.heap.size, 0, none⟩) rs.length rs.length cs ∧ CellsRows wr (w.heap.size + 1) wr.heap.size cs ds ∧ ds.length = rs.length ∧ ds.take k = rs.take k ∧ Below w.heap.size w wr) (fun i _ => rs.length - (intOf i).toNat)
  case atStart =>
    exact ⟨0, _, List.replicate rs.length zeroRow, Nat.zero_le _, rfl, OwnC.of_own hown (Nat.le_refl _), CellsRows.zeros, by simp, by simp, hb1⟩
  case round =>
    clear hown hg hb1
    obtain ⟨k, cs, ds, hk, rfl, ho, hci, hdl, htk, hb⟩ := hrel
    have hcl : cs.length = rs.length * 3 := ho.len
    have HT := Lib.hid htk; clear htk
    have HC := Lib.hid hcl; clear hcl
    have HD := Lib.hid hdl; clear hdl
    by_cases hlt : k < rs.length
    · obtain ⟨b, off, A', c', r, rfl, hx, q0, q1, q2, hi, hxl⟩ := (h.below hb) k hlt
      have hat := lenRows_at hx
      have hxs : r.s.length ≤ 1048576 := by unfold sizeRows at hl; omega
      have HX := Lib.hid hx; clear hx
      have hgl : w.heap.size < wr.heap.size := (ho.own.lt _ rfl).2
      have hzs := hb.size
      go_wp2_with (fail)
      refine (laws_toRow _ _ _ _ _ _ hi hxs).mono ?_; rintro e w2 ⟨A2, c2, rfl, o2, b2⟩
      have ho2 := ho.below b2 (Nat.le_refl _)
      have hci2 := hci.keep (w' := w2) fun k _ h2 _ => b2.block k (by omega)
      have hb2 := hb.trans (b2.mono hb.size)
      have hz2' := b2.size
      obtain ⟨_, hA0, _, _, s0, f0⟩ := ho2.cell (j := k * 3) (by rw [HC.out]; omega)
      injection hA0 with hA0
      injection hA0 with hA0
      subst hA0
      obtain ⟨_, hA0, _, _, s1, f1⟩ := ho2.cell (j := k * 3 + 1) (by rw [HC.out]; omega)
      injection hA0 with hA0
      injection hA0 with hA0
      subst hA0
      obtain ⟨_, hA0, _, _, s2, f2⟩ := ho2.cell (j := k * 3 + 2) (by rw [HC.out]; omega)
      injection hA0 with hA0
      injection hA0 with hA0
      subst hA0
      go_wp2_with (fail)
      go_roundw
      case rel =>
        have hst := ((ho2.store (j := k * 3) (Value.int .i64 r.d)).1.store (j := k * 3 + 1) (Value.int .i64 r.r)).1.store (j := k * 3 + 2) (Value.slice A2 r.s.length c2)
        refine ⟨k + 1, _, ds.set k r, by omega, by go_num, hst.1.mono (Nat.le_refl _) (by simp; omega), ?_, by rw [List.length_set]; exact HD.out, ?_, by (repeat (first | exact Below.refl _ _ | assumption | apply Below.drew | apply below_drewN | (refine Below.alloc ?_ (by first | omega | (simp; done) | (simp; omega)) _) | (refine Below.setCell ?_ (by first | omega | (simp; done) | (simp; omega)) _)))⟩
        · refine CellsRows.keep (w := w2) ?_ fun q h1 h2 h3 => ?_
          · exact CellsRows.mono (hci2.set o2 (Nat.le_refl _) hz2' (by omega) (by rw [HD.out]; exact hlt)) (Nat.le_refl _) (by simp)
          · rw [Below.heap_setCell _ _ _ q (by show q ≠ w.heap.size; omega), Below.heap_setCell _ _ _ q (by show q ≠ w.heap.size; omega), Below.heap_setCell _ _ _ q (by show q ≠ w.heap.size; omega)]
        · rw [take_set_succ _ _ _ (by rw [HD.out]; exact hlt), HT.out, take_snoc HX.out]
      case measure => simp [intOf]; omega
    · go_wp2
      go_ret
      have : k = rs.length := by omega
      subst this
      have e : ds = rs := by
        have := HT.out
        rwa [take_all (by rw [HD.out]; exact Nat.le_refl _), take_all (Nat.le_refl _)] at this
      subst e
      exact ⟨_, _, rfl, ⟨cs, ho, hci.mono (Nat.le_succ _) (Nat.le_refl _)⟩, hb⟩

set_option maxHeartbeats 2000000 in
theorem laws_eqRowS (ps qs : List RowD) (A B : Option Addr) (c d : Nat) (w : World) (h : RowsR w A ps) (h' : RowsR w B qs) (hl : ps.length ≤ 1000000000000) (_hl' : qs.length ≤ 1000000000000) :
    Calls Try.prog 59 #[.slice A ps.length c, .slice B qs.length d] w fun e w' => e = .returned (.bool (decide (ps = qs))) ∧ Below w.heap.size w w' := by
  by_cases hle : ps.length = qs.length
  · have HL := Lib.hid hle
    have hle' : ((ps.length : Int) != (qs.length : Int)) = false := by simp [hle]
    clear hle
    go_enter Try.func59, Try.ntmps59
    go_wp2
    go_loopw [5] (fun i wr => ∃ (k : Nat), k ≤ ps.length ∧ i = .int .i64 k ∧ ps.take k = qs.take k ∧ Below w.heap.size w wr) (fun i _ => ps.length - (intOf i).toNat)
    case atStart => exact ⟨0, Nat.zero_le _, rfl, rfl, Below.refl _ _⟩
    case round =>
      obtain ⟨k, hk, rfl, htk, hb⟩ := hrel
      have HT := Lib.hid htk; clear htk
      by_cases hlt : k < ps.length
      · have hlt' : k < qs.length := by rw [← HL.out]; exact hlt
        obtain ⟨b, off, A1, c1, p, rfl, hp, h0, h1, h2, hi, hxl⟩ := (h.below hb) k hlt
        obtain ⟨b', off', A2, c2, q, rfl, hq, h0', h1', h2', hi', hyl⟩ := (h'.below hb) k hlt'
        have HP := Lib.hid hp; clear hp
        have HQ := Lib.hid hq; clear hq
        have j1 : (0 : Int) ≤ (k : Int) := by omega
        have j2 : (k : Int) < (ps.length : Int) := by omega
        have j3 : (k : Int) < (qs.length : Int) := by omega
        have hpd : decide (p.d = q.d ∧ p.r = q.r ∧ p.s = q.s) = decide (p = q) := decide_eq_decide.2 ⟨fun h => by cases p; cases q; simp_all, fun h => by simp [h]⟩
        by_cases hpq : p = q
        · have hpq' : decide (p.d = q.d ∧ p.r = q.r ∧ p.s = q.s) = true := by rw [hpd]; exact decide_eq_true hpq
          have HPQ := Lib.hid hpq; clear hpq hpd
          go_wp2_with (fail)
          go_region_held3 (fun W' => (W'.cell? ⟨b, off + k * 3, none⟩ = some (.int .i64 p.d) ∧ W'.cell? ⟨b, off + k * 3 + 1, none⟩ = some (.int .i64 p.r) ∧ W'.cell? ⟨b, off + k * 3 + 2, none⟩ = some (.slice A1 p.s.length c1)) ∧ (W'.cell? ⟨b', off' + k * 3, none⟩ = some (.int .i64 q.d) ∧ W'.cell? ⟨b', off' + k * 3 + 1, none⟩ = some (.int .i64 q.r) ∧ W'.cell? ⟨b', off' + k * 3 + 2, none⟩ = some (.slice A2 q.s.length c2))) (first | exact ⟨⟨h0, h1, h2⟩, h0', h1', h2'⟩ | exact ⟨⟨cells_below b2 _ _ h0, cells_below b2 _ _ h1, cells_below b2 _ _ h2⟩, cells_below b2 _ _ h0', cells_below b2 _ _ h1', cells_below b2 _ _ h2'⟩)
            (first | (go_at_call 51; refine (laws_eqRow _ _ _ _ _ _ _ _ _ _ _ (Ints.drewN hi 1) (Ints.drewN hi' 1) hxl hyl).mono ?_; rintro e w2 ⟨rfl, b2⟩; replace b2 := undrew b2))
          go_wp2_with (fail)
          go_roundw
          case rel => exact ⟨k + 1, by omega, by go_num, by rw [take_snoc HP.out, take_snoc HQ.out, HT.out, HPQ.out], hb.trans (b2.mono hb.size)⟩
          case measure => simp [intOf]; omega
        · have hpq' : decide (p.d = q.d ∧ p.r = q.r ∧ p.s = q.s) = false := by rw [hpd]; exact decide_eq_false hpq
          have HPQ := Lib.hid hpq; clear hpq hpd
          go_wp2_with (fail)
          go_region_held3 (fun W' => (W'.cell? ⟨b, off + k * 3, none⟩ = some (.int .i64 p.d) ∧ W'.cell? ⟨b, off + k * 3 + 1, none⟩ = some (.int .i64 p.r) ∧ W'.cell? ⟨b, off + k * 3 + 2, none⟩ = some (.slice A1 p.s.length c1)) ∧ (W'.cell? ⟨b', off' + k * 3, none⟩ = some (.int .i64 q.d) ∧ W'.cell? ⟨b', off' + k * 3 + 1, none⟩ = some (.int .i64 q.r) ∧ W'.cell? ⟨b', off' + k * 3 + 2, none⟩ = some (.slice A2 q.s.length c2))) (first | exact ⟨⟨h0, h1, h2⟩, h0', h1', h2'⟩ | exact ⟨⟨cells_below b2 _ _ h0, cells_below b2 _ _ h1, cells_below b2 _ _ h2⟩, cells_below b2 _ _ h0', cells_below b2 _ _ h1', cells_below b2 _ _ h2'⟩)
            (first | (go_at_call 51; refine (laws_eqRow _ _ _ _ _ _ _ _ _ _ _ (Ints.drewN hi 1) (Ints.drewN hi' 1) hxl hyl).mono ?_; rintro e w2 ⟨rfl, b2⟩; replace b2 := undrew b2))
          go_wp2_with (fail)
          go_ret
          exact ⟨ret_bool (by simpa using ne_of_getElem? HP.out HQ.out HPQ.out), hb.trans (b2.mono hb.size)⟩
      · go_wp2
        go_ret
        have : k = ps.length := by omega
        subst this
        have e := HT.out
        rw [take_all (Nat.le_refl _), take_all (by rw [HL.out]; exact Nat.le_refl _)] at e
        exact ⟨ret_bool (by simpa using e), hb⟩
  · have hle' : ((ps.length : Int) != (qs.length : Int)) = true := by simp; omega
    go_enter Try.func59, Try.ntmps59
    go_wp2
    go_ret
    exact ⟨ret_bool (by simp; intro e; exact hle (by rw [e])), Below.refl _ _⟩

def marksRows (k : Int) : List RowD → List RowD
  | [] => []
  | r :: rs => ⟨k, k + 1, marksI (k + 2) r.s.length⟩ :: marksRows (k + 2 + r.s.length) rs
theorem marksRows_length (k : Int) (rs : List RowD) : (marksRows k rs).length = rs.length := by
  induction rs generalizing k with
  | nil => rfl
  | cons x r ih => simp [marksRows, ih]
theorem cntRows_append (a b : List RowD) : cntRows (a ++ b) = cntRows a + cntRows b := by simp [cntRows, lenRows_append]; omega
theorem cntRows_snoc {rs : List RowD} {k : Nat} {r : RowD} (h : rs[k]? = some r) : cntRows (rs.take (k + 1)) = cntRows (rs.take k) + 2 + r.s.length := by
  rw [take_snoc h, cntRows_append]; simp [cntRows, lenRows]; omega
theorem cntRows_at {rs : List RowD} {k : Nat} {r : RowD} (h : rs[k]? = some r) : cntRows (rs.take k) + 2 + r.s.length ≤ cntRows rs := by
  rw [← cntRows_snoc h]
  have := cntRows_append (rs.take (k + 1)) (rs.drop (k + 1))
  rw [List.take_append_drop] at this
  omega
theorem marksRows_append (k : Int) (a b : List RowD) : marksRows k (a ++ b) = marksRows k a ++ marksRows (k + cntRows a) b := by
  induction a generalizing k with
  | nil => simp [marksRows, cntRows, lenRows]
  | cons x r ih =>
    have e : k + 2 + (x.s.length : Int) + (cntRows r : Nat) = k + (cntRows (x :: r) : Nat) := by simp [cntRows, lenRows]; omega
    simp only [List.cons_append, marksRows, ih, e]
theorem marksRows_snoc {k : Int} {rs : List RowD} {j : Nat} {r : RowD} (h : rs[j]? = some r) : marksRows k (rs.take (j + 1)) = marksRows k (rs.take j) ++ [⟨k + cntRows (rs.take j), k + cntRows (rs.take j) + 1, marksI (k + cntRows (rs.take j) + 2) r.s.length⟩] := by
  rw [take_snoc h, marksRows_append]; simp [marksRows]
theorem marksRows_at {k : Int} {rs : List RowD} {j : Nat} {r : RowD} (h : rs[j]? = some r) : (marksRows k rs)[j]? = some ⟨k + cntRows (rs.take j), k + cntRows (rs.take j) + 1, marksI (k + cntRows (rs.take j) + 2) r.s.length⟩ := by
  obtain ⟨hj, rfl⟩ := List.getElem?_eq_some_iff.1 h
  have e : rs = rs.take j ++ rs[j] :: rs.drop (j + 1) := by rw [List.getElem_cons_drop, List.take_append_drop]
  have hlen : (marksRows k (rs.take j)).length = j := by rw [marksRows_length, List.length_take]; omega
  have e2 := congrArg (fun l => (marksRows k l)[j]?) e
  rw [e2, marksRows_append, List.getElem?_append_right (by omega), hlen]
  simp [marksRows]

set_option maxHeartbeats 2000000 in
theorem laws_markRowS (rs : List RowD) (A : Option Addr) (c : Nat) (k0 : Int) (lo hi : Nat) (w : World) (h : OwnRows w lo hi A rs.length c rs) (hk0 : 0 ≤ k0) (hk1 : k0 + cntRows rs ≤ 1000000000000) :
    Calls Try.prog 61 #[.slice A rs.length c, .int .i64 k0] w fun e w' => e = .returned (.int .i64 (k0 + cntRows rs)) ∧ OwnRows w' lo hi A rs.length c (marksRows k0 rs) ∧ Upd lo hi w w' := by
  have hlen : rs.length ≤ 9223372036854775807 := h.maxc
  go_enter Try.func61, Try.ntmps61
  go_wp2
  go_loopw [1, 5] (fun kv i wr => ∃ (k : Nat), k ≤ rs.length ∧ i = .int .i64 k ∧ kv = .int .i64 (k0 + cntRows (rs.take k)) ∧ OwnRows wr lo hi A rs.length c (marksRows k0 (rs.take k) ++ rs.drop k) ∧ Upd lo hi w wr) (fun _ i _ => rs.length - (intOf i).toNat)
  case atStart => exact ⟨0, Nat.zero_le _, rfl, by simp [cntRows, lenRows], by simpa [marksRows] using h, Upd.refl _ _ _⟩
  case round =>
    clear h
    obtain ⟨k, hk, rfl, rfl, ho, hu⟩ := hrel
    by_cases hlt : k < rs.length
    · have hx : rs[k]? = some rs[k] := List.getElem?_eq_getElem hlt
      generalize rs[k] = r at hx
      have hml : (marksRows k0 (rs.take k)).length = k := by rw [marksRows_length, List.length_take]; omega
      have hx2 : (marksRows k0 (rs.take k) ++ rs.drop k)[k]? = some r := by
        rw [List.getElem?_append_right (by omega), hml, drop_cons hx]; simp
      obtain ⟨g, A', c', l, h', rfl, hg1, hg2, q0, q1, q2, hf, hin, hxl, hset⟩ := ho.open_ hx2
      have f0 := hf (k * 3)
      have f1 := hf (k * 3 + 1)
      have HS := Lib.hid (cntRows_snoc hx)
      have hat := cntRows_at hx
      have HM := Lib.hid (marksRows_snoc (k := k0) hx)
      have HX := Lib.hid hx; clear hx
      have HX2 := Lib.hid hx2; clear hx2
      have HML := Lib.hid hml; clear hml
      have HFZ := Lib.hid hf; clear hf
      have HSET := Lib.hid hset; clear hset
      go_wp2_with (fail)
      refine (laws_markInt64S A' c' r.s (k0 + cntRows (rs.take k) + 1 + 1) l h' _ ?hin (by omega) (by omega)).mono ?_
      case hin =>
        refine (hin.keep1 fun q hq => ?_)
        have hne : q ≠ g := by
          rintro rfl
          obtain ⟨cs, ho1, ho2⟩ := ho.ex
          rcases ho1.form with ⟨h, _⟩ | ⟨q', cur', h, _, _, h4, _⟩
          · simp at h
          · injection h with h
            injection h with h
            subst h
            rcases hin.form with ⟨h, _⟩ | ⟨q'', cur'', h, _, _, h5, _⟩
            · rw [hq] at h; simp at h
            · rw [hq] at h
              injection h with h
              injection h with h
              subst h
              rw [h4] at h5
              injection h5 with h5
              injection h5 with _ h5
              simp at h5
        rw [Below.heap_setCell _ _ _ q hne, Below.heap_setCell _ _ _ q hne]
      rintro e w2 ⟨rfl, o2, u2⟩
      obtain ⟨ho2, hu2⟩ := HSET.out w2 (k0 + cntRows (rs.take k)) (k0 + cntRows (rs.take k) + 1) (marksI (k0 + cntRows (rs.take k) + 1 + 1) r.s.length) (marksI_length _ _) u2 o2
      go_wp2_with (fail)
      go_roundw
      case rel =>
        refine ⟨k + 1, by omega, by go_num, int_eq (by rw [HS.out]; omega), ?_, hu.trans hu2⟩
        have e : (marksRows k0 (rs.take k) ++ rs.drop k).set k ⟨k0 + cntRows (rs.take k), k0 + cntRows (rs.take k) + 1, marksI (k0 + cntRows (rs.take k) + 1 + 1) r.s.length⟩ = marksRows k0 (rs.take (k + 1)) ++ rs.drop (k + 1) := by
          rw [HM.out, List.set_append_right _ _ (by rw [HML.out]; exact Nat.le_refl _), HML.out, drop_cons HX.out]
          simp [Int.add_assoc]
        rw [← e]
        exact ho2
      case measure => simp [intOf]; omega
    · go_wp2
      go_ret
      have : k = rs.length := by omega
      subst this
      rw [take_all (Nat.le_refl _), drop_all (Nat.le_refl _)] at ho
      exact ⟨ret_int (by rw [take_all (Nat.le_refl _)]), by simpa using ho, hu⟩

set_option maxHeartbeats 1000000 in
theorem laws_heldRowS (A : Option Addr) (c : Nat) (rs : List RowD) (k0 : Int) (w : World) (h : RowsR w A (marksRows k0 rs)) (hk0 : 0 ≤ k0) (hk1 : k0 + cntRows rs ≤ 1000000000000) (hl : rs.length ≤ 1000000000000) :
    Calls Try.prog 65 #[.slice A rs.length c, .int .i64 k0] w fun e w' => e = .returned (.int .i64 (k0 + cntRows rs)) ∧ w = w' := by
  go_enter Try.func65, Try.ntmps65
  go_wp2
  go_loop [1, 5] (fun kv i => ∃ (k : Nat), k ≤ rs.length ∧ i = .int .i64 k ∧ kv = .int .i64 (k0 + cntRows (rs.take k))) (fun _ i => rs.length - (intOf i).toNat)
  case atStart => exact ⟨0, Nat.zero_le _, rfl, by simp [cntRows, lenRows]⟩
  case round =>
    obtain ⟨k, hk, rfl, rfl⟩ := hrel
    by_cases hlt : k < rs.length
    · have hx : rs[k]? = some rs[k] := List.getElem?_eq_getElem hlt
      generalize rs[k] = r at hx
      obtain ⟨b, off, A', c', zs, rfl, hz, q0, q1, q2, hi, hzl⟩ := h k (by rw [marksRows_length]; exact hlt)
      rw [marksRows_at hx] at hz
      injection hz with hz
      subst hz
      simp only [marksI_length] at q0 q1 q2 hi
      have HS := Lib.hid (cntRows_snoc hx)
      have hat := cntRows_at hx
      have hi2 : Ints w A' (marksI (k0 + cntRows (rs.take k) + 1 + 1) r.s.length) := by rw [Int.add_assoc _ 1 1]; exact hi
      clear hx hi
      go_wp2_with (refine (laws_heldInt64S _ _ _ _ _ hi2 (by omega) (by omega)).mono ?_; rintro e _ ⟨rfl, rfl⟩)
      go_round
      case rel => exact ⟨k + 1, by omega, by go_num, int_eq (by rw [HS.out]; omega)⟩
      case measure => simp [intOf]; omega
    · go_wp2
      go_ret
      have : k = rs.length := by omega
      subst this
      exact ⟨ret_int (by rw [take_all (Nat.le_refl _)]), rfl⟩

end Go.Proofs.Ytfgbhhkmdeljoaa
