/- Slices of Float: how they are read and owned, and the helpers of the laws on them. -/
import Derived.Test.YtdnchjchgejkeaaR
namespace Go.Proofs.Ytdnchjchgejkeaa
open Go.RowKit

structure FloatD where
  row : Int
  carrier : Int
  start : Int
  stop : Int
instance : DecidableEq FloatD := fun a b => decidable_of_iff (a.row = b.row ∧ a.carrier = b.carrier ∧ a.start = b.start ∧ a.stop = b.stop) ⟨fun h => by cases a; cases b; simp_all, fun h => by simp [h]⟩
def cellsFloat : List FloatD → List Value
  | [] => []
  | p :: ps => .int .i64 p.row :: .int .i64 p.carrier :: .int .i64 p.start :: .int .i64 p.stop :: cellsFloat ps

theorem cellsFloat_length (ps : List FloatD) : (cellsFloat ps).length = ps.length * 4 := by
  induction ps with
  | nil => rfl
  | cons p ps ih => simp [cellsFloat, ih]; omega
theorem cellsFloat_snoc (ps : List FloatD) (p : FloatD) : cellsFloat (ps ++ [p]) = cellsFloat ps ++ [.int .i64 p.row, .int .i64 p.carrier, .int .i64 p.start, .int .i64 p.stop] := by
  induction ps with
  | nil => rfl
  | cons q ps ih => simp [cellsFloat, ih]
theorem cellsFloat_at {ps : List FloatD} {i : Nat} {p : FloatD} (h : ps[i]? = some p) : (cellsFloat ps)[i * 4]? = some (.int .i64 p.row) ∧ (cellsFloat ps)[i * 4 + 1]? = some (.int .i64 p.carrier) ∧ (cellsFloat ps)[i * 4 + 2]? = some (.int .i64 p.start) ∧ (cellsFloat ps)[i * 4 + 3]? = some (.int .i64 p.stop) := by
  induction ps generalizing i with
  | nil => simp at h
  | cons q ps ih =>
    cases i with
    | zero =>
      simp at h
      subst h
      simp [cellsFloat]
    | succ i =>
      have := ih (i := i) (by simpa using h)
      simp only [Nat.succ_mul, cellsFloat]
      simpa [Nat.add_right_comm] using this
def Floats (w : World) (A : Option Addr) (ps : List FloatD) : Prop :=
  ∀ k, k < ps.length → ∃ b off p, A = some ⟨b, off, none⟩ ∧ ps[k]? = some p ∧ w.cell? ⟨b, off + k * 4, none⟩ = some (.int .i64 p.row) ∧ w.cell? ⟨b, off + k * 4 + 1, none⟩ = some (.int .i64 p.carrier) ∧ w.cell? ⟨b, off + k * 4 + 2, none⟩ = some (.int .i64 p.start) ∧ w.cell? ⟨b, off + k * 4 + 3, none⟩ = some (.int .i64 p.stop)
theorem Floats.of_cells {w w' : World} {A : Option Addr} {ps : List FloatD} (h : Floats w A ps) (hk : ∀ a v, w.cell? a = some v → w'.cell? a = some v) : Floats w' A ps :=
  fun k hk' => by
    obtain ⟨b, off, p, hA, hp, h0, h1, h2, h3⟩ := h k hk'
    exact ⟨b, off, p, hA, hp, hk _ _ h0, hk _ _ h1, hk _ _ h2, hk _ _ h3⟩
theorem Floats.below {w w' : World} {A : Option Addr} {ps : List FloatD} (h : Floats w A ps) (hb : Below w.heap.size w w') : Floats w' A ps := h.of_cells (cells_below hb)
theorem Floats.drewN {w : World} {A : Option Addr} {ps : List FloatD} (h : Floats w A ps) (n : Nat) : Floats (w.drewN n) A ps := h
theorem Floats.nil {w : World} {A : Option Addr} : Floats w A [] := fun k hk => by simp at hk

/-- A slice of Float that is the call's own. -/
abbrev OwnFloat (w : World) (lo hi : Nat) (A : Option Addr) (c : Nat) (ps : List FloatD) : Prop := OwnC w lo hi 129 4 A ps.length c (cellsFloat ps)
theorem OwnC.floats {w : World} {lo hi n : Nat} {A : Option Addr} {c : Nat} {ps : List FloatD} (h : OwnC w lo hi 129 4 A n c (cellsFloat ps)) : Floats w A ps := by
  intro k hk
  have hp : ps[k]? = some ps[k] := List.getElem?_eq_getElem hk
  obtain ⟨e0, e1, e2, e3⟩ := cellsFloat_at hp
  have hl := cellsFloat_length ps
  have hk3 : k * 4 + 3 < ps.length * 4 := by omega
  obtain ⟨g0, hA0, _, _, c0, _⟩ := h.cell (j := k * 4) (by omega)
  rw [List.getElem?_eq_getElem (by omega)] at e0
  injection e0 with e0
  rw [e0] at c0
  subst hA0
  obtain ⟨g1, hA1, _, _, c1, _⟩ := h.cell (j := k * 4 + 1) (by omega)
  rw [List.getElem?_eq_getElem (by omega)] at e1
  injection e1 with e1
  rw [e1] at c1
  injection hA1 with hA1
  injection hA1 with hA1
  subst hA1
  obtain ⟨g2, hA2, _, _, c2, _⟩ := h.cell (j := k * 4 + 2) (by omega)
  rw [List.getElem?_eq_getElem (by omega)] at e2
  injection e2 with e2
  rw [e2] at c2
  injection hA2 with hA2
  injection hA2 with hA2
  subst hA2
  obtain ⟨g3, hA3, _, _, c3, _⟩ := h.cell (j := k * 4 + 3) (by omega)
  rw [List.getElem?_eq_getElem (by omega)] at e3
  injection e3 with e3
  rw [e3] at c3
  injection hA3 with hA3
  injection hA3 with hA3
  subst hA3
  exact ⟨g0, 0, ps[k], rfl, hp, by simpa using c0, by simpa using c1, by simpa using c2, by simpa using c3⟩
theorem info_Float : (Try.prog.info? 129).map (fun i => (i.zero, i.size, i.bytes)) = some (some (.agg #[.int .i64 0, .int .i64 0, .int .i64 0, .int .i64 0]), 4, 32) := by kernel_rfl

theorem laws_eqFloat (x0 x1 x2 x3 y0 y1 y2 y3 : Int) (w : World) : Calls Try.prog 132 #[.agg #[.int .i64 x0, .int .i64 x1, .int .i64 x2, .int .i64 x3], .agg #[.int .i64 y0, .int .i64 y1, .int .i64 y2, .int .i64 y3]] w fun e w' => e = .returned (.bool (decide ((⟨x0, x1, x2, x3⟩ : FloatD) = ⟨y0, y1, y2, y3⟩))) ∧ Below w.heap.size w w' := by
  by_cases e0 : x0 = y0
  · subst e0
    by_cases e1 : x1 = y1
    · subst e1
      by_cases e2 : x2 = y2
      · subst e2
        by_cases e3 : x3 = y3
        · subst e3
          go_enter Try.func132, Try.ntmps132
          go_wp2_with (fail)
          go_ret
          exact ⟨ret_bool (by simp), by (repeat (first | exact Below.refl _ _ | assumption | apply Below.drew | apply below_drewN | (refine Below.alloc ?_ (by first | omega | (simp; done) | (simp; omega)) _) | (refine Below.setCell ?_ (by first | omega | (simp; done) | (simp; omega)) _)))⟩
        · have e' : (x3 != y3) = true := by simpa using e3
          go_enter Try.func132, Try.ntmps132
          go_wp2_with (fail)
          go_ret
          exact ⟨ret_bool (by simp [e3]), by (repeat (first | exact Below.refl _ _ | assumption | apply Below.drew | apply below_drewN | (refine Below.alloc ?_ (by first | omega | (simp; done) | (simp; omega)) _) | (refine Below.setCell ?_ (by first | omega | (simp; done) | (simp; omega)) _)))⟩
      · have e' : (x2 != y2) = true := by simpa using e2
        go_enter Try.func132, Try.ntmps132
        go_wp2_with (fail)
        go_ret
        exact ⟨ret_bool (by simp [e2]), by (repeat (first | exact Below.refl _ _ | assumption | apply Below.drew | apply below_drewN | (refine Below.alloc ?_ (by first | omega | (simp; done) | (simp; omega)) _) | (refine Below.setCell ?_ (by first | omega | (simp; done) | (simp; omega)) _)))⟩
    · have e' : (x1 != y1) = true := by simpa using e1
      go_enter Try.func132, Try.ntmps132
      go_wp2_with (fail)
      go_ret
      exact ⟨ret_bool (by simp [e1]), by (repeat (first | exact Below.refl _ _ | assumption | apply Below.drew | apply below_drewN | (refine Below.alloc ?_ (by first | omega | (simp; done) | (simp; omega)) _) | (refine Below.setCell ?_ (by first | omega | (simp; done) | (simp; omega)) _)))⟩
  · have e' : (x0 != y0) = true := by simpa using e0
    go_enter Try.func132, Try.ntmps132
    go_wp2_with (fail)
    go_ret
    exact ⟨ret_bool (by simp [e0]), by (repeat (first | exact Below.refl _ _ | assumption | apply Below.drew | apply below_drewN | (refine Below.alloc ?_ (by first | omega | (simp; done) | (simp; omega)) _) | (refine Below.setCell ?_ (by first | omega | (simp; done) | (simp; omega)) _)))⟩

set_option maxHeartbeats 2000000 in
theorem laws_eqFloatS (A B : Option Addr) (c d : Nat) (ps qs : List FloatD) (w : World) (h : Floats w A ps) (h' : Floats w B qs) (hl : ps.length ≤ 1000000000000) (_hl' : qs.length ≤ 1000000000000) :
    Calls Try.prog 66 #[.slice A ps.length c, .slice B qs.length d] w fun e w' => e = .returned (.bool (decide (ps = qs))) ∧ Below w.heap.size w w' := by
  by_cases hle : ps.length = qs.length
  · have HL := Lib.hid hle
    have hle' : ((ps.length : Int) != (qs.length : Int)) = false := by simp [hle]
    clear hle
    go_enter Try.func66, Try.ntmps66
    go_wp2
    go_loopw [5] (fun i wr => ∃ (k : Nat), k ≤ ps.length ∧ i = .int .i64 k ∧ ps.take k = qs.take k ∧ Below w.heap.size w wr) (fun i _ => ps.length - (intOf i).toNat)
    case atStart => exact ⟨0, Nat.zero_le _, rfl, rfl, Below.refl _ _⟩
    case round =>
      obtain ⟨k, hk, rfl, htk, hb⟩ := hrel
      have HT := Lib.hid htk; clear htk
      by_cases hlt : k < ps.length
      · have hlt' : k < qs.length := by rw [← HL.out]; exact hlt
        obtain ⟨b, off, p, rfl, hp, h0, h1, h2, h3⟩ := h k hlt
        obtain ⟨b', off', q, rfl, hq, h0', h1', h2', h3'⟩ := h' k hlt'
        have HP := Lib.hid hp; clear hp
        have HQ := Lib.hid hq; clear hq
        replace h0 := cells_below hb _ _ h0
        replace h0' := cells_below hb _ _ h0'
        replace h1 := cells_below hb _ _ h1
        replace h1' := cells_below hb _ _ h1'
        replace h2 := cells_below hb _ _ h2
        replace h2' := cells_below hb _ _ h2'
        replace h3 := cells_below hb _ _ h3
        replace h3' := cells_below hb _ _ h3'
        have j1 : (0 : Int) ≤ (k : Int) := by omega
        have j2 : (k : Int) < (ps.length : Int) := by omega
        have j3 : (k : Int) < (qs.length : Int) := by omega
        by_cases hpq : p = q
        · subst hpq
          go_wp2_with (fail)
          go_region_held3 (fun W' => (W'.cell? ⟨b, off + k * 4, none⟩ = some (.int .i64 p.row) ∧ W'.cell? ⟨b, off + k * 4 + 1, none⟩ = some (.int .i64 p.carrier) ∧ W'.cell? ⟨b, off + k * 4 + 2, none⟩ = some (.int .i64 p.start) ∧ W'.cell? ⟨b, off + k * 4 + 3, none⟩ = some (.int .i64 p.stop)) ∧ (W'.cell? ⟨b', off' + k * 4, none⟩ = some (.int .i64 p.row) ∧ W'.cell? ⟨b', off' + k * 4 + 1, none⟩ = some (.int .i64 p.carrier) ∧ W'.cell? ⟨b', off' + k * 4 + 2, none⟩ = some (.int .i64 p.start) ∧ W'.cell? ⟨b', off' + k * 4 + 3, none⟩ = some (.int .i64 p.stop))) (first | exact ⟨⟨h0, h1, h2, h3⟩, h0', h1', h2', h3'⟩ | exact ⟨⟨cells_below b2 _ _ h0, cells_below b2 _ _ h1, cells_below b2 _ _ h2, cells_below b2 _ _ h3⟩, cells_below b2 _ _ h0', cells_below b2 _ _ h1', cells_below b2 _ _ h2', cells_below b2 _ _ h3'⟩)
            (first | (go_at_call 132; refine (laws_eqFloat _ _ _ _ _ _ _ _ _).mono ?_; rintro e w2 ⟨rfl, b2⟩; replace b2 := undrew b2))
          go_wp2_with (fail)
          go_roundw
          case rel => exact ⟨k + 1, by omega, by go_num, by rw [take_snoc HP.out, take_snoc HQ.out, HT.out], hb.trans (b2.mono hb.size)⟩
          case measure => simp [intOf]; omega
        · have hpq' : decide (p = q) = false := decide_eq_false hpq
          go_wp2_with (fail)
          go_region_held3 (fun W' => (W'.cell? ⟨b, off + k * 4, none⟩ = some (.int .i64 p.row) ∧ W'.cell? ⟨b, off + k * 4 + 1, none⟩ = some (.int .i64 p.carrier) ∧ W'.cell? ⟨b, off + k * 4 + 2, none⟩ = some (.int .i64 p.start) ∧ W'.cell? ⟨b, off + k * 4 + 3, none⟩ = some (.int .i64 p.stop)) ∧ (W'.cell? ⟨b', off' + k * 4, none⟩ = some (.int .i64 q.row) ∧ W'.cell? ⟨b', off' + k * 4 + 1, none⟩ = some (.int .i64 q.carrier) ∧ W'.cell? ⟨b', off' + k * 4 + 2, none⟩ = some (.int .i64 q.start) ∧ W'.cell? ⟨b', off' + k * 4 + 3, none⟩ = some (.int .i64 q.stop))) (first | exact ⟨⟨h0, h1, h2, h3⟩, h0', h1', h2', h3'⟩ | exact ⟨⟨cells_below b2 _ _ h0, cells_below b2 _ _ h1, cells_below b2 _ _ h2, cells_below b2 _ _ h3⟩, cells_below b2 _ _ h0', cells_below b2 _ _ h1', cells_below b2 _ _ h2', cells_below b2 _ _ h3'⟩)
            (first | (go_at_call 132; refine (laws_eqFloat _ _ _ _ _ _ _ _ _).mono ?_; rintro e w2 ⟨rfl, b2⟩; replace b2 := undrew b2))
          go_wp2_with (fail)
          go_ret
          exact ⟨ret_bool (by simpa using ne_of_getElem? HP.out HQ.out hpq), hb.trans (b2.mono hb.size)⟩
      · go_wp2
        go_ret
        have : k = ps.length := by omega
        subst this
        have e := HT.out
        rw [take_all (Nat.le_refl _), take_all (by rw [HL.out]; exact Nat.le_refl _)] at e
        exact ⟨ret_bool (by simpa using e), hb⟩
  · have hle' : ((ps.length : Int) != (qs.length : Int)) = true := by simp; omega
    go_enter Try.func66, Try.ntmps66
    go_wp2
    go_ret
    exact ⟨ret_bool (by simp; intro e; exact hle (by rw [e])), Below.refl _ _⟩

def marksFloat (k : Int) (m : Nat) : List FloatD := (List.range m).map fun (i : Nat) => ⟨k + 4 * i, k + 4 * i + 1, k + 4 * i + 2, k + 4 * i + 3⟩
theorem marksFloat_length (k : Int) (m : Nat) : (marksFloat k m).length = m := by simp [marksFloat]
theorem marksFloat_snoc (k : Int) (m : Nat) : marksFloat k (m + 1) = marksFloat k m ++ [⟨k + 4 * m, k + 4 * m + 1, k + 4 * m + 2, k + 4 * m + 3⟩] := by simp [marksFloat, List.range_succ]
theorem marksFloat_at {k : Int} {m i : Nat} {p : FloatD} (h : (marksFloat k m)[i]? = some p) : p = ⟨k + 4 * i, k + 4 * i + 1, k + 4 * i + 2, k + 4 * i + 3⟩ := by
  simp only [marksFloat, List.getElem?_map, Option.map_eq_some_iff] at h
  obtain ⟨j, hj, rfl⟩ := h
  obtain ⟨hl, he⟩ := List.getElem?_eq_some_iff.1 hj
  simp at he
  subst he
  rfl

set_option maxHeartbeats 1000000 in
theorem laws_markFloatS (A : Option Addr) (c : Nat) (ps : List FloatD) (k0 : Int) (lo hi : Nat) (w : World) (h : OwnFloat w lo hi A c ps) (hk0 : 0 ≤ k0) (hk1 : k0 + 4 * ps.length ≤ 1000000000000) :
    Calls Try.prog 67 #[.slice A ps.length c, .int .i64 k0] w fun e w' => e = .returned (.int .i64 (k0 + 4 * ps.length)) ∧ OwnC w' lo hi 129 4 A ps.length c (cellsFloat (marksFloat k0 ps.length)) ∧ Upd lo hi w w' := by
  have hlen : ps.length ≤ 9223372036854775807 := by omega
  go_enter Try.func67, Try.ntmps67
  go_wp2
  go_loopw [1, 5] (fun kv i wr => ∃ (k : Nat) (cs : List Value), k ≤ ps.length ∧ i = .int .i64 k ∧ kv = .int .i64 (k0 + 4 * k) ∧ OwnC wr lo hi 129 4 A ps.length c cs ∧ cs.take (k * 4) = cellsFloat (marksFloat k0 k) ∧ Upd lo hi w wr) (fun _ i _ => ps.length - (intOf i).toNat)
  case atStart => exact ⟨0, _, Nat.zero_le _, rfl, by simp, h, by simp [marksFloat, cellsFloat], Upd.refl _ _ _⟩
  case round =>
    clear h
    obtain ⟨k, cs, hk, rfl, rfl, ho, htk, hu⟩ := hrel
    have hcl : cs.length = ps.length * 4 := ho.len
    have HT := Lib.hid htk; clear htk
    have HC := Lib.hid hcl; clear hcl
    by_cases hlt : k < ps.length
    · obtain ⟨g, rfl, hg1, hg2, q0, f0⟩ := ho.cell (j := k * 4) (by rw [HC.out]; omega)
      obtain ⟨_, hA1, _, _, q1, f1⟩ := ho.cell (j := k * 4 + 1) (by rw [HC.out]; omega)
      injection hA1 with hA1
      injection hA1 with hA1
      subst hA1
      obtain ⟨_, hA2, _, _, q2, f2⟩ := ho.cell (j := k * 4 + 2) (by rw [HC.out]; omega)
      injection hA2 with hA2
      injection hA2 with hA2
      subst hA2
      obtain ⟨_, hA3, _, _, q3, f3⟩ := ho.cell (j := k * 4 + 3) (by rw [HC.out]; omega)
      injection hA3 with hA3
      injection hA3 with hA3
      subst hA3
      go_wp2_with (fail)
      go_roundw
      case rel =>
        refine ⟨k + 1, ((((cs.set (k * 4) (.int .i64 (k0 + 4 * k))).set (k * 4 + 1) (.int .i64 (k0 + 4 * k + 1))).set (k * 4 + 2) (.int .i64 (k0 + 4 * k + 1 + 1))).set (k * 4 + 3) (.int .i64 (k0 + 4 * k + 1 + 1 + 1))), by omega, by go_num, by push_cast; go_num, ((((ho.store _).1.store _).1.store _).1.store _).1, ?_, by (repeat (first | exact Upd.refl _ _ _ | assumption | apply Upd.drewN | (refine Upd.setCell ?_ (by first | omega | (simp; done) | (simp; omega)) (by first | omega | (simp; done) | (simp; omega)) _)))⟩
        rw [marksFloat_snoc, cellsFloat_snoc, ← HT.out]
        rw [take_set4 cs (k * 4) _ (by rw [Nat.succ_mul]) (by rw [HC.out]; omega)]
        simp [Int.add_assoc]
      case measure => simp [intOf]; omega
    · go_wp2
      go_ret
      have : k = ps.length := by omega
      subst this
      have e : cs = cellsFloat (marksFloat k0 ps.length) := by
        have := HT.out
        rwa [take_all (by rw [HC.out]; exact Nat.le_refl _)] at this
      subst e
      exact ⟨rfl, ho, hu⟩

set_option maxHeartbeats 1000000 in
theorem laws_heldFloatS (A : Option Addr) (c m : Nat) (k0 : Int) (w : World) (h : Floats w A (marksFloat k0 m)) (hk0 : 0 ≤ k0) (hk1 : k0 + 4 * m ≤ 1000000000000) :
    Calls Try.prog 68 #[.slice A m c, .int .i64 k0] w fun e w' => e = .returned (.int .i64 (k0 + 4 * m)) ∧ w = w' := by
  go_enter Try.func68, Try.ntmps68
  go_wp2
  go_loop [1, 5] (fun kv i => ∃ (k : Nat), k ≤ m ∧ i = .int .i64 k ∧ kv = .int .i64 (k0 + 4 * k)) (fun _ i => m - (intOf i).toNat)
  case atStart => exact ⟨0, Nat.zero_le _, rfl, by simp⟩
  case round =>
    obtain ⟨k, hk, rfl, rfl⟩ := hrel
    by_cases hlt : k < m
    · obtain ⟨b, off, p, rfl, hp, h0, h1, h2, h3⟩ := h k (by rw [marksFloat_length]; exact hlt)
      obtain rfl := marksFloat_at hp
      clear hp
      go_wp2_with (fail)
      go_round
      case rel => exact ⟨k + 1, by omega, by go_num, by push_cast; go_num⟩
      case measure => simp [intOf]; omega
    · go_wp2
      go_ret
      have : k = m := by omega
      subst this
      exact ⟨rfl, rfl⟩

end Go.Proofs.Ytdnchjchgejkeaa
