/- Steps of the proof, joined from several texts: IIf RW RWf S2 FP O2 SK O5. -/
import Derived.Test.YtcgbogofmdjddaaDoorZ1
import Derived.Deep.Fields
import Derived.Shelf.Strings.Split
import Derived.HandedShaped
import Derived.Shelf.Vars

/- Slices of slices of numbers: the helpers of the laws. -/
namespace Go.Proofs.YtcgbogofmdjddaaDoor
open Go.RowKit

def Drawn (w wr : World) : Prop := ∃ n, wr = w.drewN n
theorem Drawn.refl (w : World) : Drawn w w := ⟨0, rfl⟩
theorem Drawn.drewN {w wr : World} (h : Drawn w wr) (k : Nat) : Drawn w (wr.drewN k) := by
  obtain ⟨n, rfl⟩ := h
  exact ⟨n + k, by simp⟩
theorem Drawn.cells {w wr : World} (h : Drawn w wr) : ∀ a v, w.cell? a = some v → wr.cell? a = some v := by
  obtain ⟨n, rfl⟩ := h
  exact fun _ _ h => h

set_option maxHeartbeats 1000000 in
theorem laws_eqInt64SS (xss yss : List (List Int)) (A B : Option Addr) (c d : Nat) (w : World) (h : Ints2 w A xss) (h' : Ints2 w B yss) (hl : xss.length ≤ 1000000000000) (_hl' : yss.length ≤ 1000000000000) :
    Calls Tryd.prog 44 #[.slice A xss.length c, .slice B yss.length d] w fun e w' => e = .returned (.bool (decide (xss = yss))) ∧ Below w.heap.size w w' := by
  refine Calls.mono (R := fun e w' => e = .returned (.bool (decide (xss = yss))) ∧ ∃ n, w' = w.drewN n) ?_ fun e w' ⟨h1, n, h2⟩ => ⟨h1, by subst h2; exact below_drewN (Below.refl _ _) _⟩
  by_cases hle : xss.length = yss.length
  · have HL := Lib.hid hle
    have hle' : ((xss.length : Int) != (yss.length : Int)) = false := by simp [hle]
    clear hle
    go_enter Tryd.func44, Tryd.ntmps44
    go_wp2
    go_loopw [5] (fun i wr => ∃ (k : Nat), k ≤ xss.length ∧ i = .int .i64 k ∧ xss.take k = yss.take k ∧ Drawn w wr) (fun i _ => xss.length - (intOf i).toNat)
    case atStart => exact ⟨0, Nat.zero_le _, rfl, rfl, Drawn.refl _⟩
    case round =>
      obtain ⟨k, hk, rfl, htk, hdr⟩ := hrel
      have HT := Lib.hid htk; clear htk
      by_cases hlt : k < xss.length
      · have hlt' : k < yss.length := by rw [← HL.out]; exact hlt
        obtain ⟨b, off, A1, c1, xs, rfl, hx, hc, hi, hxl⟩ := (h.of_cells hdr.cells) k hlt
        obtain ⟨b', off', A2, c2, ys, rfl, hy, hc', hi', hyl⟩ := (h'.of_cells hdr.cells) k hlt'
        have HX := Lib.hid hx; clear hx
        have HY := Lib.hid hy; clear hy
        have j1 : (0 : Int) ≤ (k : Int) := by omega
        have j2 : (k : Int) < (xss.length : Int) := by omega
        have j3 : (k : Int) < (yss.length : Int) := by omega
        by_cases hxy : xs = ys
        · subst hxy
          go_wp2_with (fail)
          go_quiet ((go_at_call 22; exact Calls.quiet_of (laws_eqInt64S _ _ _ _ _ _ _ hi hi' hxl hyl)))
          go_wp2_with (fail)
          go_roundw
          case rel => exact ⟨k + 1, by omega, by go_num, by rw [take_snoc HX.out, take_snoc HY.out, HT.out], hdr.drewN _⟩
          case measure => simp [intOf]; omega
        · have hxy' : decide (xs = ys) = false := decide_eq_false hxy
          go_wp2_with (fail)
          go_quiet ((go_at_call 22; exact Calls.quiet_of (laws_eqInt64S _ _ _ _ _ _ _ hi hi' hxl hyl)))
          go_wp2_with (fail)
          go_ret
          exact ⟨ret_bool (by simpa using ne_of_getElem? HX.out HY.out hxy), hdr.drewN _⟩
      · go_wp2_with (fail)
        go_ret
        have : k = xss.length := by omega
        subst this
        have e := HT.out
        rw [take_all (Nat.le_refl _), take_all (by rw [HL.out]; exact Nat.le_refl _)] at e
        exact ⟨ret_bool (by simpa using e), hdr⟩
  · have hle' : ((xss.length : Int) != (yss.length : Int)) = true := by simp; omega
    go_enter Tryd.func44, Tryd.ntmps44
    go_wp2
    go_ret
    exact ⟨ret_bool (by simp; intro e; exact hle (by rw [e])), 0, rfl⟩

def marksII (k : Int) : List (List Int) → List (List Int)
  | [] => []
  | xs :: r => marksI k xs.length :: marksII (k + xs.length) r
theorem marksII_length (k : Int) (xss : List (List Int)) : (marksII k xss).length = xss.length := by
  induction xss generalizing k with
  | nil => rfl
  | cons x r ih => simp [marksII, ih]
theorem marksII_append (k : Int) (a b : List (List Int)) : marksII k (a ++ b) = marksII k a ++ marksII (k + cntII a) b := by
  induction a generalizing k with
  | nil => simp [marksII, cntII]
  | cons x r ih => simp [marksII, cntII, ih, Int.add_assoc]
theorem marksII_snoc {k : Int} {xss : List (List Int)} {j : Nat} {xs : List Int} (h : xss[j]? = some xs) : marksII k (xss.take (j + 1)) = marksII k (xss.take j) ++ [marksI (k + cntII (xss.take j)) xs.length] := by
  rw [take_snoc h, marksII_append]; simp [marksII]
theorem marksII_at {k : Int} {xss : List (List Int)} {j : Nat} {xs : List Int} (h : xss[j]? = some xs) : (marksII k xss)[j]? = some (marksI (k + cntII (xss.take j)) xs.length) := by
  obtain ⟨hj, rfl⟩ := List.getElem?_eq_some_iff.1 h
  have e : xss = xss.take j ++ xss[j] :: xss.drop (j + 1) := by rw [List.getElem_cons_drop, List.take_append_drop]
  have hlen : (marksII k (xss.take j)).length = j := by rw [marksII_length, List.length_take]; omega
  have e2 := congrArg (fun l => (marksII k l)[j]?) e
  rw [e2, marksII_append, List.getElem?_append_right (by omega), hlen]
  simp [marksII]

set_option maxHeartbeats 1000000 in
theorem laws_markInt64SS (xss : List (List Int)) (A : Option Addr) (c : Nat) (k0 : Int) (lo hi : Nat) (w : World) (h : OwnII w lo hi A xss.length c xss) (hk0 : 0 ≤ k0) (hk1 : k0 + cntII xss ≤ 1000000000000) :
    Calls Tryd.prog 45 #[.slice A xss.length c, .int .i64 k0] w fun e w' => e = .returned (.int .i64 (k0 + cntII xss)) ∧ OwnII w' lo hi A xss.length c (marksII k0 xss) ∧ Upd lo hi w w' := by
  have hlen : xss.length ≤ 9223372036854775807 := by obtain ⟨cs, h1, _⟩ := h.ex; exact h1.maxc
  go_enter Tryd.func45, Tryd.ntmps45
  go_wp2
  go_loopw [1, 5] (fun kv i wr => ∃ (k : Nat), k ≤ xss.length ∧ i = .int .i64 k ∧ kv = .int .i64 (k0 + cntII (xss.take k)) ∧ OwnII wr lo hi A xss.length c (marksII k0 (xss.take k) ++ xss.drop k) ∧ Upd lo hi w wr) (fun _ i _ => xss.length - (intOf i).toNat)
  case atStart => exact ⟨0, Nat.zero_le _, rfl, by simp [cntII], by simpa [marksII] using h, Upd.refl _ _ _⟩
  case round =>
    clear h
    obtain ⟨k, hk, rfl, rfl, ho, hu⟩ := hrel
    by_cases hlt : k < xss.length
    · have hx : xss[k]? = some xss[k] := List.getElem?_eq_getElem hlt
      generalize xss[k] = xs at hx
      have hml : (marksII k0 (xss.take k)).length = k := by rw [marksII_length, List.length_take]; omega
      have hx2 : (marksII k0 (xss.take k) ++ xss.drop k)[k]? = some xs := by
        rw [List.getElem?_append_right (by omega), hml, drop_cons hx]; simp
      obtain ⟨g, A', c', l, h', rfl, hc, hin, hxl, hset⟩ := ho.open_ hx2
      have HS := Lib.hid (cntII_snoc hx)
      have hat := cntII_at hx
      have HM := Lib.hid (marksII_snoc (k := k0) hx)
      have HX := Lib.hid hx; clear hx
      have HX2 := Lib.hid hx2; clear hx2
      have HML := Lib.hid hml; clear hml
      go_wp2_with (fail)
      refine (laws_markInt64S A' c' xs (k0 + cntII (xss.take k)) l h' _ hin (by omega) (by omega)).mono ?_; rintro e w2 ⟨rfl, o2, u2⟩
      obtain ⟨ho2, hu2⟩ := hset w2 (marksI (k0 + cntII (xss.take k)) xs.length) (marksI_length _ _) u2 o2
      go_wp2_with (fail)
      go_roundw
      case rel =>
        refine ⟨k + 1, by omega, by go_num, int_eq (by rw [HS.out]; omega), ?_, hu.trans hu2⟩
        have e : (marksII k0 (xss.take k) ++ xss.drop k).set k (marksI (k0 + cntII (xss.take k)) xs.length) = marksII k0 (xss.take (k + 1)) ++ xss.drop (k + 1) := by
          rw [HM.out, List.set_append_right _ _ (by rw [HML.out]; exact Nat.le_refl _), HML.out, drop_cons HX.out]
          simp
        rw [← e]
        exact ho2
      case measure => simp [intOf]; omega
    · go_wp2
      go_ret
      have : k = xss.length := by omega
      subst this
      rw [take_all (Nat.le_refl _), drop_all (Nat.le_refl _)] at ho
      exact ⟨ret_int (by rw [take_all (Nat.le_refl _)]), by simpa using ho, hu⟩

theorem laws_heldInt64SS (A : Option Addr) (c : Nat) (xss : List (List Int)) (k0 : Int) (w : World) (h : Ints2 w A (marksII k0 xss)) (hk0 : 0 ≤ k0) (hk1 : k0 + cntII xss ≤ 1000000000000) (hl : xss.length ≤ 1000000000000) :
    Calls Tryd.prog 46 #[.slice A xss.length c, .int .i64 k0] w fun e w' => e = .returned (.int .i64 (k0 + cntII xss)) ∧ w = w' := by
  go_enter Tryd.func46, Tryd.ntmps46
  go_wp2
  go_loop [1, 5] (fun kv i => ∃ (k : Nat), k ≤ xss.length ∧ i = .int .i64 k ∧ kv = .int .i64 (k0 + cntII (xss.take k))) (fun _ i => xss.length - (intOf i).toNat)
  case atStart => exact ⟨0, Nat.zero_le _, rfl, by simp [cntII]⟩
  case round =>
    obtain ⟨k, hk, rfl, rfl⟩ := hrel
    by_cases hlt : k < xss.length
    · have hx : xss[k]? = some xss[k] := List.getElem?_eq_getElem hlt
      generalize xss[k] = xs at hx
      obtain ⟨b, off, A', c', zs, rfl, hz, hc, hi, hzl⟩ := h k (by rw [marksII_length]; exact hlt)
      rw [marksII_at hx] at hz
      injection hz with hz
      subst hz
      rw [marksI_length] at hc
      have HS := Lib.hid (cntII_snoc hx)
      have hat := cntII_at hx
      clear hx
      go_wp2_with (refine (laws_heldInt64S _ _ _ _ _ hi (by omega) (by omega)).mono ?_; rintro e _ ⟨rfl, rfl⟩)
      go_round
      case rel => exact ⟨k + 1, by omega, by go_num, int_eq (by rw [HS.out]; omega)⟩
      case measure => simp [intOf]; omega
    · go_wp2
      go_ret
      have : k = xss.length := by omega
      subst this
      exact ⟨ret_int (by rw [take_all (Nat.le_refl _)]), rfl⟩

end Go.Proofs.YtcgbogofmdjddaaDoor

/- Slices of rows: how they are read and owned. -/
namespace Go.Proofs.YtcgbogofmdjddaaDoor
open Go.RowKit

structure RowD where
  d : Int
  r : Int
  s : List Int
instance : DecidableEq RowD := fun a b => decidable_of_iff (a.d = b.d ∧ a.r = b.r ∧ a.s = b.s) ⟨fun h => by cases a; cases b; simp_all, fun h => by simp [h]⟩

def RowsR (w : World) (A : Option Addr) (rs : List RowD) : Prop :=
  ∀ k, k < rs.length → ∃ b off A' c' r, A = some ⟨b, off, none⟩ ∧ rs[k]? = some r ∧ w.cell? ⟨b, off + k * 3, none⟩ = some (.int .i64 r.d) ∧ w.cell? ⟨b, off + k * 3 + 1, none⟩ = some (.int .i64 r.r) ∧ w.cell? ⟨b, off + k * 3 + 2, none⟩ = some (.slice A' r.s.length c') ∧ Ints w A' r.s ∧ r.s.length ≤ 9223372036854775807
theorem RowsR.of_cells {w w' : World} {A : Option Addr} {rs : List RowD} (h : RowsR w A rs) (hk : ∀ a v, w.cell? a = some v → w'.cell? a = some v) : RowsR w' A rs :=
  fun k hk' => by
    obtain ⟨b, off, A', c', r, hA, hx, h0, h1, h2, hi, hl⟩ := h k hk'
    exact ⟨b, off, A', c', r, hA, hx, hk _ _ h0, hk _ _ h1, hk _ _ h2, hi.of_cells hk, hl⟩
theorem RowsR.below {w w' : World} {A : Option Addr} {rs : List RowD} (h : RowsR w A rs) (hb : Below w.heap.size w w') : RowsR w' A rs := h.of_cells (cells_below hb)
theorem RowsR.nil {w : World} {A : Option Addr} : RowsR w A [] := fun k hk => by simp at hk

def lenRows : List RowD → Nat
  | [] => 0
  | r :: rs => r.s.length + lenRows rs
def sizeRows (rs : List RowD) : Nat := rs.length + lenRows rs
def cntRows (rs : List RowD) : Nat := 2 * rs.length + lenRows rs
theorem lenRows_append (a b : List RowD) : lenRows (a ++ b) = lenRows a + lenRows b := by
  induction a with
  | nil => simp [lenRows]
  | cons x r ih => simp [lenRows, ih]; omega
theorem lenRows_snoc {rs : List RowD} {k : Nat} {r : RowD} (h : rs[k]? = some r) : lenRows (rs.take (k + 1)) = lenRows (rs.take k) + r.s.length := by
  rw [take_snoc h, lenRows_append]; simp [lenRows]
theorem lenRows_take_le (rs : List RowD) (k : Nat) : lenRows (rs.take k) ≤ lenRows rs := by
  have := lenRows_append (rs.take k) (rs.drop k)
  rw [List.take_append_drop] at this
  omega
theorem lenRows_at {rs : List RowD} {k : Nat} {r : RowD} (h : rs[k]? = some r) : lenRows (rs.take k) + r.s.length ≤ lenRows rs := by
  rw [← lenRows_snoc h]; exact lenRows_take_le _ _

def CellsRows (w : World) (lo hi : Nat) (cs : List Value) (rs : List RowD) : Prop :=
  cs.length = rs.length * 3 ∧ (∀ (k : Nat) (r : RowD), rs[k]? = some r → ∃ (A' : Option Addr) (c' : Nat), cs[k * 3]? = some (Value.int .i64 r.d) ∧ cs[k * 3 + 1]? = some (Value.int .i64 r.r) ∧ cs[k * 3 + 2]? = some (Value.slice A' r.s.length c') ∧ OwnI w lo hi A' c' r.s) ∧
  ∀ (i j : Nat) (v v' : Value) (g : Nat), cs[i]? = some v → cs[j]? = some v' → v.ownBlock = some g → v'.ownBlock = some g → i = j
theorem CellsRows.keep {w w' : World} {lo hi : Nat} {cs : List Value} {rs : List RowD} (h : CellsRows w lo hi cs rs) (hk : ∀ k, lo ≤ k → k < hi → k < w.heap.size → w'.heap[k]? = w.heap[k]?) : CellsRows w' lo hi cs rs :=
  ⟨h.1, fun k r hx => by obtain ⟨A', c', h0, h1, h2, h3⟩ := h.2.1 k r hx; exact ⟨A', c', h0, h1, h2, h3.keep hk⟩, h.2.2⟩
theorem CellsRows.mono {w : World} {lo hi lo' hi' : Nat} {cs : List Value} {rs : List RowD} (h : CellsRows w lo hi cs rs) (h1 : lo' ≤ lo) (h2 : hi ≤ hi') : CellsRows w lo' hi' cs rs :=
  ⟨h.1, fun k r hx => by obtain ⟨A', c', h3, h4, h5, h6⟩ := h.2.1 k r hx; exact ⟨A', c', h3, h4, h5, h6.mono h1 h2⟩, h.2.2⟩
/-- Every cell is a number, or a slice in blocks from lo up to hi. -/
theorem CellsRows.block {w : World} {lo hi : Nat} {cs : List Value} {rs : List RowD} (h : CellsRows w lo hi cs rs) {i : Nat} {v : Value} {g : Nat} (hi' : cs[i]? = some v) (hv : v.ownBlock = some g) : lo ≤ g ∧ g < hi ∧ ∃ k r, rs[k]? = some r ∧ i = k * 3 + 2 := by
  have hil : i < cs.length := (List.getElem?_eq_some_iff.1 hi').1
  have hkl : i / 3 < rs.length := by have := h.1; omega
  obtain ⟨A', c', h0, h1, h2, h3⟩ := h.2.1 (i / 3) _ (List.getElem?_eq_getElem hkl)
  have : i = i / 3 * 3 ∨ i = i / 3 * 3 + 1 ∨ i = i / 3 * 3 + 2 := by omega
  rcases this with e | e | e
  · rw [← e, hi'] at h0
    injection h0 with h0
    subst h0
    simp [Value.ownBlock] at hv
  · rw [← e, hi'] at h1
    injection h1 with h1
    subst h1
    simp [Value.ownBlock] at hv
  · rw [← e, hi'] at h2
    injection h2 with h2
    subst h2
    have := h3.own.lt g hv
    refine ⟨this.1, ?_, i / 3, _, List.getElem?_eq_getElem hkl, e⟩
    cases A' with
    | none => simp [Value.ownBlock] at hv
    | some a => simp [Value.ownBlock] at hv; subst hv; exact h3.lt a rfl


end Go.Proofs.YtcgbogofmdjddaaDoor

/- Slices of rows: the helpers of the laws. -/
namespace Go.Proofs.YtcgbogofmdjddaaDoor
open Go.RowKit

def marksRows (k : Int) : List RowD → List RowD
  | [] => []
  | r :: rs => ⟨k, k + 1, marksI (k + 2) r.s.length⟩ :: marksRows (k + 2 + r.s.length) rs
theorem marksRows_length (k : Int) (rs : List RowD) : (marksRows k rs).length = rs.length := by
  induction rs generalizing k with
  | nil => rfl
  | cons x r ih => simp [marksRows, ih]
theorem cntRows_append (a b : List RowD) : cntRows (a ++ b) = cntRows a + cntRows b := by simp [cntRows, lenRows_append]; omega
theorem cntRows_snoc {rs : List RowD} {k : Nat} {r : RowD} (h : rs[k]? = some r) : cntRows (rs.take (k + 1)) = cntRows (rs.take k) + 2 + r.s.length := by
  rw [take_snoc h, cntRows_append]; simp [cntRows, lenRows]; omega
theorem cntRows_at {rs : List RowD} {k : Nat} {r : RowD} (h : rs[k]? = some r) : cntRows (rs.take k) + 2 + r.s.length ≤ cntRows rs := by
  rw [← cntRows_snoc h]
  have := cntRows_append (rs.take (k + 1)) (rs.drop (k + 1))
  rw [List.take_append_drop] at this
  omega
theorem marksRows_append (k : Int) (a b : List RowD) : marksRows k (a ++ b) = marksRows k a ++ marksRows (k + cntRows a) b := by
  induction a generalizing k with
  | nil => simp [marksRows, cntRows, lenRows]
  | cons x r ih =>
    have e : k + 2 + (x.s.length : Int) + (cntRows r : Nat) = k + (cntRows (x :: r) : Nat) := by simp [cntRows, lenRows]; omega
    simp only [List.cons_append, marksRows, ih, e]
theorem marksRows_snoc {k : Int} {rs : List RowD} {j : Nat} {r : RowD} (h : rs[j]? = some r) : marksRows k (rs.take (j + 1)) = marksRows k (rs.take j) ++ [⟨k + cntRows (rs.take j), k + cntRows (rs.take j) + 1, marksI (k + cntRows (rs.take j) + 2) r.s.length⟩] := by
  rw [take_snoc h, marksRows_append]; simp [marksRows]
theorem marksRows_at {k : Int} {rs : List RowD} {j : Nat} {r : RowD} (h : rs[j]? = some r) : (marksRows k rs)[j]? = some ⟨k + cntRows (rs.take j), k + cntRows (rs.take j) + 1, marksI (k + cntRows (rs.take j) + 2) r.s.length⟩ := by
  obtain ⟨hj, rfl⟩ := List.getElem?_eq_some_iff.1 h
  have e : rs = rs.take j ++ rs[j] :: rs.drop (j + 1) := by rw [List.getElem_cons_drop, List.take_append_drop]
  have hlen : (marksRows k (rs.take j)).length = j := by rw [marksRows_length, List.length_take]; omega
  have e2 := congrArg (fun l => (marksRows k l)[j]?) e
  rw [e2, marksRows_append, List.getElem?_append_right (by omega), hlen]
  simp [marksRows]


end Go.Proofs.YtcgbogofmdjddaaDoor

/- Structs of a number and a slice: the helpers of the laws. -/
namespace Go.Proofs.YtcgbogofmdjddaaDoor
open Go.RowKit

theorem laws_eqColourChart (n n' : Int) (xs ys : List (List Int)) (A B : Option Addr) (c c' : Nat) (w : World) (h : Ints2 w A xs) (h' : Ints2 w B ys) (hl : xs.length ≤ 1000000000000) (hl' : ys.length ≤ 1000000000000) :
    Calls Tryd.prog 11 #[.agg #[.int .i64 n, .slice A xs.length c], .agg #[.int .i64 n', .slice B ys.length c']] w fun e w' => e = .returned (.bool (decide (n = n' ∧ xs = ys))) ∧ Below w.heap.size w w' := by
  by_cases hd : n = n'
  · subst hd
    go_enter Tryd.func11, Tryd.ntmps11
    go_wp2_with (fail)
    refine (laws_eqInt64SS xs ys A B _ _ _ (h.below ?hb1) (h'.below ?hb2) hl hl').mono ?_
    case hb1 => (repeat (first | exact Below.refl _ _ | assumption | apply Below.drew | apply below_drewN | (refine Below.alloc ?_ (by first | omega | (simp; done) | (simp; omega)) _) | (refine Below.setCell ?_ (by first | omega | (simp; done) | (simp; omega)) _)))
    case hb2 => (repeat (first | exact Below.refl _ _ | assumption | apply Below.drew | apply below_drewN | (refine Below.alloc ?_ (by first | omega | (simp; done) | (simp; omega)) _) | (refine Below.setCell ?_ (by first | omega | (simp; done) | (simp; omega)) _)))
    rintro e w2 ⟨rfl, b2⟩
    have b3 : Below w.heap.size w w2 := Below.trans (by (repeat (first | exact Below.refl _ _ | assumption | apply Below.drew | apply below_drewN | (refine Below.alloc ?_ (by first | omega | (simp; done) | (simp; omega)) _) | (refine Below.setCell ?_ (by first | omega | (simp; done) | (simp; omega)) _)))) (b2.mono (by first | omega | (simp; done) | (simp; omega)))
    generalize hq : decide (xs = ys) = q
    have HQ := Lib.hid hq; clear hq
    cases q
    · go_wp2_with (fail)
      go_ret
      exact ⟨ret_bool (by have := HQ.out; simpa using this), b3⟩
    · go_wp2_with (fail)
      go_ret
      exact ⟨ret_bool (by have := HQ.out; simpa using this), b3⟩
  · have hd' : (n != n') = true := by simpa using hd
    go_enter Tryd.func11, Tryd.ntmps11
    go_wp2_with (fail)
    go_ret
    exact ⟨ret_bool (by simp [hd]), by (repeat (first | exact Below.refl _ _ | assumption | apply Below.drew | apply below_drewN | (refine Below.alloc ?_ (by first | omega | (simp; done) | (simp; omega)) _) | (refine Below.setCell ?_ (by first | omega | (simp; done) | (simp; omega)) _)))⟩

theorem laws_markColourChart (n : Int) (xs : List (List Int)) (A : Option Addr) (c : Nat) (k0 : Int) (lo hi : Nat) (w : World) (h : OwnII w lo hi A xs.length c xs) (hk0 : 0 ≤ k0) (hk1 : k0 + (cntII xs : Nat) ≤ 1000000000000) :
    Calls Tryd.prog 12 #[.agg #[.int .i64 n, .slice A xs.length c], .int .i64 k0] w fun e w' => e = .returned (.int .i64 (k0 + (cntII xs : Nat))) ∧ OwnII w' lo hi A xs.length c (marksII k0 xs) ∧ Upd lo hi w w' := by
  go_enter Tryd.func12, Tryd.ntmps12
  go_wp2_with (fail)
  refine (laws_markInt64SS xs A c k0 lo hi _ (h.alloc _) hk0 hk1).mono ?_
  rintro e w1 ⟨rfl, o1, u1⟩
  go_wp2_with (fail)
  go_ret
  exact ⟨rfl, o1, (upd_alloc w _ lo hi).trans u1⟩

theorem laws_heldColourChart (n : Int) (A : Option Addr) (c : Nat) (xs : List (List Int)) (k0 : Int) (w : World) (h : Ints2 w A (marksII k0 xs)) (hk0 : 0 ≤ k0) (hk1 : k0 + (cntII xs : Nat) ≤ 1000000000000) (hl : xs.length ≤ 1000000000000) :
    Calls Tryd.prog 13 #[.agg #[.int .i64 n, .slice A xs.length c], .int .i64 k0] w fun e w' => e = .returned (.int .i64 (k0 + (cntII xs : Nat))) ∧ Below w.heap.size w w' := by
  have hd : decide (k0 + ((cntII xs : Nat) : Int) < 0) = false := decide_eq_false (by omega)
  go_enter Tryd.func13, Tryd.ntmps13
  go_wp2_with (fail)
  refine (laws_heldInt64SS A c xs k0 _ (h.below (by (repeat (first | exact Below.refl _ _ | assumption | apply Below.drew | apply below_drewN | (refine Below.alloc ?_ (by first | omega | (simp; done) | (simp; omega)) _) | (refine Below.setCell ?_ (by first | omega | (simp; done) | (simp; omega)) _))))) hk0 hk1 hl).mono ?_
  rintro e _ ⟨rfl, rfl⟩
  go_wp2_with (fail)
  go_ret
  exact ⟨rfl, by (repeat (first | exact Below.refl _ _ | assumption | apply Below.drew | apply below_drewN | (refine Below.alloc ?_ (by first | omega | (simp; done) | (simp; omega)) _) | (refine Below.setCell ?_ (by first | omega | (simp; done) | (simp; omega)) _)))⟩


end Go.Proofs.YtcgbogofmdjddaaDoor

/- Slices of Piece: how they are read and owned, and the helpers of the laws on them. -/
namespace Go.Proofs.YtcgbogofmdjddaaDoor
open Go.RowKit

structure PieceD where
  kind : Int
  times : Int
  len : Int
instance : DecidableEq PieceD := fun a b => decidable_of_iff (a.kind = b.kind ∧ a.times = b.times ∧ a.len = b.len) ⟨fun h => by cases a; cases b; simp_all, fun h => by simp [h]⟩
def cellsPiece : List PieceD → List Value
  | [] => []
  | p :: ps => .int .i64 p.kind :: .int .i64 p.times :: .int .i64 p.len :: cellsPiece ps

theorem cellsPiece_length (ps : List PieceD) : (cellsPiece ps).length = ps.length * 3 := by
  induction ps with
  | nil => rfl
  | cons p ps ih => simp [cellsPiece, ih]; omega
theorem cellsPiece_snoc (ps : List PieceD) (p : PieceD) : cellsPiece (ps ++ [p]) = cellsPiece ps ++ [.int .i64 p.kind, .int .i64 p.times, .int .i64 p.len] := by
  induction ps with
  | nil => rfl
  | cons q ps ih => simp [cellsPiece, ih]
theorem cellsPiece_at {ps : List PieceD} {i : Nat} {p : PieceD} (h : ps[i]? = some p) : (cellsPiece ps)[i * 3]? = some (.int .i64 p.kind) ∧ (cellsPiece ps)[i * 3 + 1]? = some (.int .i64 p.times) ∧ (cellsPiece ps)[i * 3 + 2]? = some (.int .i64 p.len) := by
  induction ps generalizing i with
  | nil => simp at h
  | cons q ps ih =>
    cases i with
    | zero =>
      simp at h
      subst h
      simp [cellsPiece]
    | succ i =>
      have := ih (i := i) (by simpa using h)
      simp only [Nat.succ_mul, cellsPiece]
      simpa [Nat.add_right_comm] using this
def Pieces (w : World) (A : Option Addr) (ps : List PieceD) : Prop :=
  ∀ k, k < ps.length → ∃ b off p, A = some ⟨b, off, none⟩ ∧ ps[k]? = some p ∧ w.cell? ⟨b, off + k * 3, none⟩ = some (.int .i64 p.kind) ∧ w.cell? ⟨b, off + k * 3 + 1, none⟩ = some (.int .i64 p.times) ∧ w.cell? ⟨b, off + k * 3 + 2, none⟩ = some (.int .i64 p.len)
theorem Pieces.of_cells {w w' : World} {A : Option Addr} {ps : List PieceD} (h : Pieces w A ps) (hk : ∀ a v, w.cell? a = some v → w'.cell? a = some v) : Pieces w' A ps :=
  fun k hk' => by
    obtain ⟨b, off, p, hA, hp, h0, h1, h2⟩ := h k hk'
    exact ⟨b, off, p, hA, hp, hk _ _ h0, hk _ _ h1, hk _ _ h2⟩
theorem Pieces.below {w w' : World} {A : Option Addr} {ps : List PieceD} (h : Pieces w A ps) (hb : Below w.heap.size w w') : Pieces w' A ps := h.of_cells (cells_below hb)
theorem Pieces.drewN {w : World} {A : Option Addr} {ps : List PieceD} (h : Pieces w A ps) (n : Nat) : Pieces (w.drewN n) A ps := h
theorem Pieces.nil {w : World} {A : Option Addr} : Pieces w A [] := fun k hk => by simp at hk

/-- A slice of Piece that is the call's own. -/
abbrev OwnPiece (w : World) (lo hi : Nat) (A : Option Addr) (c : Nat) (ps : List PieceD) : Prop := OwnC w lo hi 45 3 A ps.length c (cellsPiece ps)
theorem OwnC.pieces {w : World} {lo hi n : Nat} {A : Option Addr} {c : Nat} {ps : List PieceD} (h : OwnC w lo hi 45 3 A n c (cellsPiece ps)) : Pieces w A ps := by
  intro k hk
  have hp : ps[k]? = some ps[k] := List.getElem?_eq_getElem hk
  obtain ⟨e0, e1, e2⟩ := cellsPiece_at hp
  have hl := cellsPiece_length ps
  have hk3 : k * 3 + 2 < ps.length * 3 := by omega
  obtain ⟨g0, hA0, _, _, c0, _⟩ := h.cell (j := k * 3) (by omega)
  rw [List.getElem?_eq_getElem (by omega)] at e0
  injection e0 with e0
  rw [e0] at c0
  subst hA0
  obtain ⟨g1, hA1, _, _, c1, _⟩ := h.cell (j := k * 3 + 1) (by omega)
  rw [List.getElem?_eq_getElem (by omega)] at e1
  injection e1 with e1
  rw [e1] at c1
  injection hA1 with hA1
  injection hA1 with hA1
  subst hA1
  obtain ⟨g2, hA2, _, _, c2, _⟩ := h.cell (j := k * 3 + 2) (by omega)
  rw [List.getElem?_eq_getElem (by omega)] at e2
  injection e2 with e2
  rw [e2] at c2
  injection hA2 with hA2
  injection hA2 with hA2
  subst hA2
  exact ⟨g0, 0, ps[k], rfl, hp, by simpa using c0, by simpa using c1, by simpa using c2⟩
theorem info_Piece : (Tryd.prog.info? 45).map (fun i => (i.zero, i.size, i.bytes)) = some (some (.agg #[.int .i64 0, .int .i64 0, .int .i64 0]), 3, 24) := by kernel_rfl

theorem laws_eqPiece (x0 x1 x2 y0 y1 y2 : Int) (w : World) : Calls Tryd.prog 54 #[.agg #[.int .i64 x0, .int .i64 x1, .int .i64 x2], .agg #[.int .i64 y0, .int .i64 y1, .int .i64 y2]] w fun e w' => e = .returned (.bool (decide ((⟨x0, x1, x2⟩ : PieceD) = ⟨y0, y1, y2⟩))) ∧ Below w.heap.size w w' := by
  by_cases e0 : x0 = y0
  · subst e0
    by_cases e1 : x1 = y1
    · subst e1
      by_cases e2 : x2 = y2
      · subst e2
        go_enter Tryd.func54, Tryd.ntmps54
        go_wp2_with (fail)
        go_ret
        exact ⟨ret_bool (by simp), by (repeat (first | exact Below.refl _ _ | assumption | apply Below.drew | apply below_drewN | (refine Below.alloc ?_ (by first | omega | (simp; done) | (simp; omega)) _) | (refine Below.setCell ?_ (by first | omega | (simp; done) | (simp; omega)) _)))⟩
      · have e' : (x2 != y2) = true := by simpa using e2
        go_enter Tryd.func54, Tryd.ntmps54
        go_wp2_with (fail)
        go_ret
        exact ⟨ret_bool (by simp [e2]), by (repeat (first | exact Below.refl _ _ | assumption | apply Below.drew | apply below_drewN | (refine Below.alloc ?_ (by first | omega | (simp; done) | (simp; omega)) _) | (refine Below.setCell ?_ (by first | omega | (simp; done) | (simp; omega)) _)))⟩
    · have e' : (x1 != y1) = true := by simpa using e1
      go_enter Tryd.func54, Tryd.ntmps54
      go_wp2_with (fail)
      go_ret
      exact ⟨ret_bool (by simp [e1]), by (repeat (first | exact Below.refl _ _ | assumption | apply Below.drew | apply below_drewN | (refine Below.alloc ?_ (by first | omega | (simp; done) | (simp; omega)) _) | (refine Below.setCell ?_ (by first | omega | (simp; done) | (simp; omega)) _)))⟩
  · have e' : (x0 != y0) = true := by simpa using e0
    go_enter Tryd.func54, Tryd.ntmps54
    go_wp2_with (fail)
    go_ret
    exact ⟨ret_bool (by simp [e0]), by (repeat (first | exact Below.refl _ _ | assumption | apply Below.drew | apply below_drewN | (refine Below.alloc ?_ (by first | omega | (simp; done) | (simp; omega)) _) | (refine Below.setCell ?_ (by first | omega | (simp; done) | (simp; omega)) _)))⟩

set_option maxHeartbeats 2000000 in
theorem laws_eqPieceS (A B : Option Addr) (c d : Nat) (ps qs : List PieceD) (w : World) (h : Pieces w A ps) (h' : Pieces w B qs) (hl : ps.length ≤ 1000000000000) (_hl' : qs.length ≤ 1000000000000) :
    Calls Tryd.prog 16 #[.slice A ps.length c, .slice B qs.length d] w fun e w' => e = .returned (.bool (decide (ps = qs))) ∧ Below w.heap.size w w' := by
  by_cases hle : ps.length = qs.length
  · have HL := Lib.hid hle
    have hle' : ((ps.length : Int) != (qs.length : Int)) = false := by simp [hle]
    clear hle
    go_enter Tryd.func16, Tryd.ntmps16
    go_wp2
    go_loopw [5] (fun i wr => ∃ (k : Nat), k ≤ ps.length ∧ i = .int .i64 k ∧ ps.take k = qs.take k ∧ Below w.heap.size w wr) (fun i _ => ps.length - (intOf i).toNat)
    case atStart => exact ⟨0, Nat.zero_le _, rfl, rfl, Below.refl _ _⟩
    case round =>
      obtain ⟨k, hk, rfl, htk, hb⟩ := hrel
      have HT := Lib.hid htk; clear htk
      by_cases hlt : k < ps.length
      · have hlt' : k < qs.length := by rw [← HL.out]; exact hlt
        obtain ⟨b, off, p, rfl, hp, h0, h1, h2⟩ := h k hlt
        obtain ⟨b', off', q, rfl, hq, h0', h1', h2'⟩ := h' k hlt'
        have HP := Lib.hid hp; clear hp
        have HQ := Lib.hid hq; clear hq
        replace h0 := cells_below hb _ _ h0
        replace h0' := cells_below hb _ _ h0'
        replace h1 := cells_below hb _ _ h1
        replace h1' := cells_below hb _ _ h1'
        replace h2 := cells_below hb _ _ h2
        replace h2' := cells_below hb _ _ h2'
        have j1 : (0 : Int) ≤ (k : Int) := by omega
        have j2 : (k : Int) < (ps.length : Int) := by omega
        have j3 : (k : Int) < (qs.length : Int) := by omega
        by_cases hpq : p = q
        · subst hpq
          go_wp2_with (fail)
          go_region_held3 (fun W' => (W'.cell? ⟨b, off + k * 3, none⟩ = some (.int .i64 p.kind) ∧ W'.cell? ⟨b, off + k * 3 + 1, none⟩ = some (.int .i64 p.times) ∧ W'.cell? ⟨b, off + k * 3 + 2, none⟩ = some (.int .i64 p.len)) ∧ (W'.cell? ⟨b', off' + k * 3, none⟩ = some (.int .i64 p.kind) ∧ W'.cell? ⟨b', off' + k * 3 + 1, none⟩ = some (.int .i64 p.times) ∧ W'.cell? ⟨b', off' + k * 3 + 2, none⟩ = some (.int .i64 p.len))) (first | exact ⟨⟨h0, h1, h2⟩, h0', h1', h2'⟩ | exact ⟨⟨cells_below b2 _ _ h0, cells_below b2 _ _ h1, cells_below b2 _ _ h2⟩, cells_below b2 _ _ h0', cells_below b2 _ _ h1', cells_below b2 _ _ h2'⟩)
            (first | (go_at_call 54; refine (laws_eqPiece _ _ _ _ _ _ _).mono ?_; rintro e w2 ⟨rfl, b2⟩; replace b2 := undrew b2))
          go_wp2_with (fail)
          go_roundw
          case rel => exact ⟨k + 1, by omega, by go_num, by rw [take_snoc HP.out, take_snoc HQ.out, HT.out], hb.trans (b2.mono hb.size)⟩
          case measure => simp [intOf]; omega
        · have hpq' : decide (p = q) = false := decide_eq_false hpq
          go_wp2_with (fail)
          go_region_held3 (fun W' => (W'.cell? ⟨b, off + k * 3, none⟩ = some (.int .i64 p.kind) ∧ W'.cell? ⟨b, off + k * 3 + 1, none⟩ = some (.int .i64 p.times) ∧ W'.cell? ⟨b, off + k * 3 + 2, none⟩ = some (.int .i64 p.len)) ∧ (W'.cell? ⟨b', off' + k * 3, none⟩ = some (.int .i64 q.kind) ∧ W'.cell? ⟨b', off' + k * 3 + 1, none⟩ = some (.int .i64 q.times) ∧ W'.cell? ⟨b', off' + k * 3 + 2, none⟩ = some (.int .i64 q.len))) (first | exact ⟨⟨h0, h1, h2⟩, h0', h1', h2'⟩ | exact ⟨⟨cells_below b2 _ _ h0, cells_below b2 _ _ h1, cells_below b2 _ _ h2⟩, cells_below b2 _ _ h0', cells_below b2 _ _ h1', cells_below b2 _ _ h2'⟩)
            (first | (go_at_call 54; refine (laws_eqPiece _ _ _ _ _ _ _).mono ?_; rintro e w2 ⟨rfl, b2⟩; replace b2 := undrew b2))
          go_wp2_with (fail)
          go_ret
          exact ⟨ret_bool (by simpa using ne_of_getElem? HP.out HQ.out hpq), hb.trans (b2.mono hb.size)⟩
      · go_wp2
        go_ret
        have : k = ps.length := by omega
        subst this
        have e := HT.out
        rw [take_all (Nat.le_refl _), take_all (by rw [HL.out]; exact Nat.le_refl _)] at e
        exact ⟨ret_bool (by simpa using e), hb⟩
  · have hle' : ((ps.length : Int) != (qs.length : Int)) = true := by simp; omega
    go_enter Tryd.func16, Tryd.ntmps16
    go_wp2
    go_ret
    exact ⟨ret_bool (by simp; intro e; exact hle (by rw [e])), Below.refl _ _⟩

def marksPiece (k : Int) (m : Nat) : List PieceD := (List.range m).map fun (i : Nat) => ⟨k + 3 * i, k + 3 * i + 1, k + 3 * i + 2⟩
theorem marksPiece_length (k : Int) (m : Nat) : (marksPiece k m).length = m := by simp [marksPiece]
theorem marksPiece_snoc (k : Int) (m : Nat) : marksPiece k (m + 1) = marksPiece k m ++ [⟨k + 3 * m, k + 3 * m + 1, k + 3 * m + 2⟩] := by simp [marksPiece, List.range_succ]
theorem marksPiece_at {k : Int} {m i : Nat} {p : PieceD} (h : (marksPiece k m)[i]? = some p) : p = ⟨k + 3 * i, k + 3 * i + 1, k + 3 * i + 2⟩ := by
  simp only [marksPiece, List.getElem?_map, Option.map_eq_some_iff] at h
  obtain ⟨j, hj, rfl⟩ := h
  obtain ⟨hl, he⟩ := List.getElem?_eq_some_iff.1 hj
  simp at he
  subst he
  rfl

set_option maxHeartbeats 1000000 in
theorem laws_markPieceS (A : Option Addr) (c : Nat) (ps : List PieceD) (k0 : Int) (lo hi : Nat) (w : World) (h : OwnPiece w lo hi A c ps) (hk0 : 0 ≤ k0) (hk1 : k0 + 3 * ps.length ≤ 1000000000000) :
    Calls Tryd.prog 17 #[.slice A ps.length c, .int .i64 k0] w fun e w' => e = .returned (.int .i64 (k0 + 3 * ps.length)) ∧ OwnC w' lo hi 45 3 A ps.length c (cellsPiece (marksPiece k0 ps.length)) ∧ Upd lo hi w w' := by
  have hlen : ps.length ≤ 9223372036854775807 := by omega
  go_enter Tryd.func17, Tryd.ntmps17
  go_wp2
  go_loopw [1, 5] (fun kv i wr => ∃ (k : Nat) (cs : List Value), k ≤ ps.length ∧ i = .int .i64 k ∧ kv = .int .i64 (k0 + 3 * k) ∧ OwnC wr lo hi 45 3 A ps.length c cs ∧ cs.take (k * 3) = cellsPiece (marksPiece k0 k) ∧ Upd lo hi w wr) (fun _ i _ => ps.length - (intOf i).toNat)
  case atStart => exact ⟨0, _, Nat.zero_le _, rfl, by simp, h, by simp [marksPiece, cellsPiece], Upd.refl _ _ _⟩
  case round =>
    clear h
    obtain ⟨k, cs, hk, rfl, rfl, ho, htk, hu⟩ := hrel
    have hcl : cs.length = ps.length * 3 := ho.len
    have HT := Lib.hid htk; clear htk
    have HC := Lib.hid hcl; clear hcl
    by_cases hlt : k < ps.length
    · obtain ⟨g, rfl, hg1, hg2, q0, f0⟩ := ho.cell (j := k * 3) (by rw [HC.out]; omega)
      obtain ⟨_, hA1, _, _, q1, f1⟩ := ho.cell (j := k * 3 + 1) (by rw [HC.out]; omega)
      injection hA1 with hA1
      injection hA1 with hA1
      subst hA1
      obtain ⟨_, hA2, _, _, q2, f2⟩ := ho.cell (j := k * 3 + 2) (by rw [HC.out]; omega)
      injection hA2 with hA2
      injection hA2 with hA2
      subst hA2
      go_wp2_with (fail)
      go_roundw
      case rel =>
        refine ⟨k + 1, (((cs.set (k * 3) (.int .i64 (k0 + 3 * k))).set (k * 3 + 1) (.int .i64 (k0 + 3 * k + 1))).set (k * 3 + 2) (.int .i64 (k0 + 3 * k + 1 + 1))), by omega, by go_num, by push_cast; go_num, (((ho.store _).1.store _).1.store _).1, ?_, by (repeat (first | exact Upd.refl _ _ _ | assumption | apply Upd.drewN | (refine Upd.setCell ?_ (by first | omega | (simp; done) | (simp; omega)) (by first | omega | (simp; done) | (simp; omega)) _)))⟩
        rw [marksPiece_snoc, cellsPiece_snoc, ← HT.out]
        rw [take_set3 cs (k * 3) _ (by rw [Nat.succ_mul]) (by rw [HC.out]; omega)]
        simp [Int.add_assoc]
      case measure => simp [intOf]; omega
    · go_wp2
      go_ret
      have : k = ps.length := by omega
      subst this
      have e : cs = cellsPiece (marksPiece k0 ps.length) := by
        have := HT.out
        rwa [take_all (by rw [HC.out]; exact Nat.le_refl _)] at this
      subst e
      exact ⟨rfl, ho, hu⟩

set_option maxHeartbeats 1000000 in
theorem laws_heldPieceS (A : Option Addr) (c m : Nat) (k0 : Int) (w : World) (h : Pieces w A (marksPiece k0 m)) (hk0 : 0 ≤ k0) (hk1 : k0 + 3 * m ≤ 1000000000000) :
    Calls Tryd.prog 18 #[.slice A m c, .int .i64 k0] w fun e w' => e = .returned (.int .i64 (k0 + 3 * m)) ∧ w = w' := by
  go_enter Tryd.func18, Tryd.ntmps18
  go_wp2
  go_loop [1, 5] (fun kv i => ∃ (k : Nat), k ≤ m ∧ i = .int .i64 k ∧ kv = .int .i64 (k0 + 3 * k)) (fun _ i => m - (intOf i).toNat)
  case atStart => exact ⟨0, Nat.zero_le _, rfl, by simp⟩
  case round =>
    obtain ⟨k, hk, rfl, rfl⟩ := hrel
    by_cases hlt : k < m
    · obtain ⟨b, off, p, rfl, hp, h0, h1, h2⟩ := h k (by rw [marksPiece_length]; exact hlt)
      obtain rfl := marksPiece_at hp
      clear hp
      go_wp2_with (fail)
      go_round
      case rel => exact ⟨k + 1, by omega, by go_num, by push_cast; go_num⟩
      case measure => simp [intOf]; omega
    · go_wp2
      go_ret
      have : k = m := by omega
      subst this
      exact ⟨rfl, rfl⟩

end Go.Proofs.YtcgbogofmdjddaaDoor

/- Arguments of the laws, opened: slices of slices, of rows, of pieces. -/
namespace Go.Proofs.YtcgbogofmdjddaaDoor
open Go.ChangeShapes Go.WideShapes Go.ChangeAt Go.RowKit
open Go.ChangeMaps (open_string shut_string)

section
variable {H : Type} {enc : TypeId × Value → H} {W : World} {base : Nat} {v : Value} {d : DataW H} {p : List MemPlace} {fuel : Nat} {cs : List Value} {x : DataW H × List MemPlace} {b0 : Nat}

theorem collect {α : Type} {P : Nat → α → Prop} (n : Nat) (h : ∀ i, i < n → ∃ x, P i x) : ∃ l : List α, l.length = n ∧ ∀ i x, l[i]? = some x → P i x := by
  induction n with
  | zero => exact ⟨[], rfl, fun i x h => by simp at h⟩
  | succ n ih =>
    obtain ⟨l, h1, h2⟩ := ih fun i hi => h i (by omega)
    obtain ⟨x, hx⟩ := h n (by omega)
    refine ⟨l ++ [x], by simp [h1], fun i y hy => ?_⟩
    by_cases hi' : i < n
    · exact h2 i y (by rw [List.getElem?_append_left (by omega)] at hy; exact hy)
    · rw [List.getElem?_append_right (by omega), h1] at hy
      obtain rfl : i = n := by
        have := (List.getElem?_eq_some_iff.1 hy).1
        simp at this; omega
      simp at hy
      subst hy
      exact hx

/-- A slice that came in: the cells of each element, and their reading. -/
theorem slice_rows {t e : TypeId} {sz : Nat} (ht : Tryd.prog.underlying t = some (.slice e)) (hC : Tryd.prog.cellsOf e = sz) (hsz : 0 < sz) (h : DataW.trod enc Tryd.prog W b0 (fun _ => true) true fuel t cs = some x) :
    ∃ A len cap n, cs = [.slice A len cap] ∧ len ≤ 9223372036854775807 ∧ ∀ i, i < len → ∃ b off cs' y, A = some ⟨b, off, none⟩ ∧ cs'.length = sz ∧ (∀ j, j < sz → W.cell? ⟨b, off + i * sz + j, none⟩ = cs'[j]?) ∧ DataW.trod enc Tryd.prog W b0 (fun _ => true) true n e cs' = some y := by
  rcases Go.Deep.open_slice ht h with ⟨hcs, _⟩ | ⟨a, len, cap, m, n, D, Pl, hcs, _, hl, hm, hmm, _, hi⟩
  · exact ⟨none, 0, 0, 0, hcs, Nat.zero_le _, fun i hi => absurd hi (Nat.not_lt_zero _)⟩
  · simp only [if_true] at hmm
    rw [hC] at hi
    refine ⟨some a, len, cap, n, hcs, by unfold maxLen at hm; omega, fun i hil => ?_⟩
    obtain ⟨cs', hc, ht⟩ := hi i (by omega)
    obtain ⟨_, hcl, hat⟩ := World.cells?_some hc
    obtain ⟨cs0, hc0, _⟩ := hi 0 (by omega)
    obtain ⟨_, hcl0, hat0⟩ := World.cells?_some hc0
    have h00 := hat0 0 (by omega)
    rw [List.getElem?_eq_getElem (by omega)] at h00
    have ha : a = ⟨a.block, a.off, none⟩ := addr_of_cell (w := W) (v := cs0[0]'(by omega)) (by simpa [Addr.add] using h00)
    refine ⟨a.block, a.off, cs', _, by rw [← ha], hcl, fun j hj => ?_, ht⟩
    have := hat j hj
    rw [ha, add_form, add_form] at this
    exact this

theorem trod_ints2 (h : DataW.trod enc Tryd.prog W b0 (fun _ => true) true fuel 22 cs = some x) :
    ∃ A c xss, cs = [.slice A xss.length c] ∧ Ints2 W A xss ∧ xss.length ≤ 9223372036854775807 := by
  obtain ⟨A, len, cap, n, rfl, hl, hi⟩ := slice_rows Tryd.underlying22 (sz := 1) (by kernel_rfl) (by decide) h
  obtain ⟨xss, rfl, hx⟩ := collect (P := fun i (xs : List Int) => ∃ b off A' c', A = some ⟨b, off, none⟩ ∧ W.cell? ⟨b, off + i, none⟩ = some (.slice A' xs.length c') ∧ Ints W A' xs ∧ xs.length ≤ 9223372036854775807) len fun i hil => by
    obtain ⟨b, off, cs', y, rfl, hcl, hat, ht⟩ := hi i hil
    obtain ⟨A', c', xs, rfl, h1, h2⟩ := trod_ints ht
    exact ⟨xs, b, off, A', c', rfl, by simpa using hat 0 (by decide), h1, h2⟩
  refine ⟨A, cap, xss, rfl, fun k hk => ?_, hl⟩
  obtain ⟨b, off, A', c', h1, h2, h3, h4⟩ := hx k _ (List.getElem?_eq_getElem hk)
  exact ⟨b, off, A', c', xss[k], h1, List.getElem?_eq_getElem hk, h2, h3, h4⟩

end

end Go.Proofs.YtcgbogofmdjddaaDoor

/- Contracts of the library, laid. -/
namespace Go.Proofs.YtcgbogofmdjddaaDoor
open Go Go.RowKit

abbrev SK_cell : Addr := ⟨0, 0, none⟩
def shelf_lays146_ren : Go.Shelf.Ren := ⟨fun | 146 => 42 | 221 => 73 | 268 => 105 | 138 => 106 | 143 => 85 | 195 => 119 | 197 => 120 | 218 => 121 | 219 => 112 | 260 => 129 | 217 => 122 | 225 => 123 | 224 => 124 | 267 => 125 | 266 => 130 | 314 => 131 | n => n, fun | 9 => 9 | 31 => 58 | 3 => 3 | 4 => 4 | 0 => 0 | 105 => 126 | 21 => 21 | 5 => 5 | 46 => 130 | 119 => 144 | 139 => 147 | 138 => 146 | 146 => 133 | 51 => 132 | n => n, fun | 1 => 0 | 3 => 1 | 4 => 2 | n => n⟩
theorem shelf_lays146 : Go.Proofs.Lays.n146 Tryd.prog shelf_lays146_ren := {
  mixed := by kernel_rfl
  f138 := Tryd.func106.trans (congrArg some (by kernel_rfl))
  f143 := Tryd.func85.trans (congrArg some (by kernel_rfl))
  f146 := Tryd.func42.trans (congrArg some (by kernel_rfl))
  f195 := Tryd.func119.trans (congrArg some (by kernel_rfl))
  f197 := Tryd.func120.trans (congrArg some (by kernel_rfl))
  f217 := Tryd.func122.trans (congrArg some (by kernel_rfl))
  f218 := Tryd.func121.trans (congrArg some (by kernel_rfl))
  f219 := Tryd.func112.trans (congrArg some (by kernel_rfl))
  f221 := Tryd.func73.trans (congrArg some (by kernel_rfl))
  f224 := Tryd.func124.trans (congrArg some (by kernel_rfl))
  f225 := Tryd.func123.trans (congrArg some (by kernel_rfl))
  f260 := Tryd.func129.trans (congrArg some (by kernel_rfl))
  f266 := Tryd.func130.trans (congrArg some (by kernel_rfl))
  f267 := Tryd.func125.trans (congrArg some (by kernel_rfl))
  f268 := Tryd.func105.trans (congrArg some (by kernel_rfl))
  f314 := Tryd.func131.trans (congrArg some (by kernel_rfl))
  t0 := Tryd.underlying0
  a0 := Tryd.isAgg0
  z0 := Tryd.sizeOf0
  v0 := Tryd.zeroValue0
  t3 := Tryd.underlying3
  a3 := Tryd.isAgg3
  z3 := Tryd.sizeOf3
  v3 := Tryd.zeroValue3
  t4 := Tryd.underlying4
  a4 := Tryd.isAgg4
  z4 := Tryd.sizeOf4
  v4 := Tryd.zeroValue4
  t5 := Tryd.underlying5
  a5 := Tryd.isAgg5
  z5 := Tryd.sizeOf5
  v5 := Tryd.zeroValue5
  t9 := Tryd.underlying9
  a9 := Tryd.isAgg9
  z9 := Tryd.sizeOf9
  v9 := Tryd.zeroValue9
  t21 := Tryd.underlying21
  a21 := Tryd.isAgg21
  z21 := Tryd.sizeOf21
  v21 := Tryd.zeroValue21
  t31 := Tryd.underlying58
  a31 := Tryd.isAgg58
  z31 := Tryd.sizeOf58
  v31 := Tryd.zeroValue58
  t46 := Tryd.underlying130
  a46 := Tryd.isAgg130
  z46 := Tryd.sizeOf130
  v46 := Tryd.zeroValue130
  t51 := Tryd.underlying132
  a51 := Tryd.isAgg132
  z51 := Tryd.sizeOf132
  v51 := Tryd.zeroValue132
  t105 := Tryd.underlying126
  a105 := Tryd.isAgg126
  z105 := Tryd.sizeOf126
  v105 := Tryd.zeroValue126
  t119 := Tryd.underlying144
  a119 := Tryd.isAgg144
  z119 := Tryd.sizeOf144
  t138 := Tryd.underlying146
  a138 := Tryd.isAgg146
  z138 := Tryd.sizeOf146
  v138 := Tryd.zeroValue146
  t139 := Tryd.underlying147
  a139 := Tryd.isAgg147
  z139 := Tryd.sizeOf147
  v139 := Tryd.zeroValue147
  t146 := Tryd.underlying133
  a146 := Tryd.isAgg133
  z146 := Tryd.sizeOf133
  v146 := Tryd.zeroValue133
  g1 := by kernel_rfl
  g3 := by kernel_rfl
  g4 := by kernel_rfl }
theorem shelf_strings_Split (s sep : ByteArray) (m : Int) (w : World) (hs : s.size < 4294967281) (hm : w.cell? ⟨0, 0, none⟩ = some (.int .i64 m)) (h1 : 1 ≤ sep.size) :
    Calls Tryd.prog 42 #[.string s, .string sep] w fun e w' =>
      e = .returned (.slice (some ⟨w.heap.size, 0, none⟩) (Lib.countB s sep + 1) (Lib.countB s sep + 1)) ∧ w' = w.alloc (.cells ((Lib.splitB sep 0 (Lib.countB s sep) s).map Value.string).toArray 9) := Any.strings_Split shelf_lays146 (by kernel_rfl) s sep m w hs hm h1

end Go.Proofs.YtcgbogofmdjddaaDoor

/- Doors: what a row hands its proof, the shape of the world among it. -/
namespace Go.Proofs.YtcgbogofmdjddaaDoor
open Go Go.RowKit

section
variable {H : Type} {enc : TypeId × Value → H}
theorem handed_shaped_and {a : Assume} {C : Checked} {os : Os} {f : FuncId} {fn : Func} {s : ChangeSpec} {conds : List PathCond} {apart fresh handsOn again : Bool} {X : World → Array Value → Prop}
    (_hX : ∀ (w w' : World) (args : Array Value), w.heap = w'.heap → X w args → X w' args)
    (own : ownKnob C.prog.godebug = none) (started : os.Started) (noInit : C.prog.inits.idxOf? f = none) (hfn : C.prog.funcs[f]? = some fn)
    (witness : ∃ (w : World) (tape : Tape) (i : Input), w.os = os ∧ (w.forCall tape i).Shaped C.prog ∧ i.vars = [] ∧ Input.okWide C.prog (w.forCall tape i) .any w.heap.size f i ∧
      ((s.pre enc C.prog fn conds apart (w.forCall tape i).memory i.args ∧ X (w.forCall tape i).memory i.args) ∧ sizedMet enc C.prog fn (OpenSpec.ofChange s) apart (w.forCall tape i).memory i.args) ∧ a.holds C.prog (lone (Frame.enter C.prog f i.args .normal) [] (w.forCall tape i)))
    (contract : ∀ (W : World) (base : Nat) (args : Array Value) (ds gs : List (DataW H)) (before : List MemPlace),
      (∀ (j : Nat) t v, fn.params[j]? = some t → args[j]? = some v → Value.okWide C.prog W .any base t v) →
      DataW.Whole enc C.prog fn.params.toList s.vars apart W args.toList ds gs before →
      W.ShapedOpen C.prog →
      Calls C.prog f args W fun e W' => ∃ v, e = .returned v ∧ s.post enc C.prog fn apart fresh handsOn again W args v W') :
    ReturnsInHanded a C os f .any (fun w args => (s.pre enc C.prog fn conds apart w args ∧ X w args) ∧ sizedMet enc C.prog fn (OpenSpec.ofChange s) apart w args) (s.post enc C.prog fn apart fresh handsOn again) := by
  refine returnsInHanded_of_calls own started noInit witness ?_
  intro w tape i _ hsh _ hok hpre _
  obtain ⟨_, _, _, fn', hfn', _, _, _, _, hval⟩ := hok
  have e : fn' = fn := Option.some.inj (hfn'.symm.trans hfn)
  subst e
  obtain ⟨⟨⟨ds, gs, before, hw, hc⟩, hx⟩, hz⟩ := hpre
  have hw' := DataW.Whole.of_heap (w' := w.forCall tape i) (by rfl) hw
  refine (contract (w.forCall tape i) w.heap.size i.args ds gs before hval hw' hsh).mono fun e W' ⟨v, he, hp⟩ => ?_
  subst he
  exact ChangeSpec.post_blind hp
end
/-- The library's variable that strings.Split looks at holds some number. -/
theorem split_cell {W : World} (h : W.ShapedOpen Tryd.prog) : ∃ m, W.cell? SK_cell = some (.int .i64 m) :=
  cell_of_shapedOpen_int (g := SK_cell.block) (t := 3) (zero := #[.int .i64 0]) h (of_decide_eq_true (by kernel_rfl)) (by kernel_rfl) rfl (by kernel_rfl) (by kernel_rfl) Tryd.underlying3

end Go.Proofs.YtcgbogofmdjddaaDoor
