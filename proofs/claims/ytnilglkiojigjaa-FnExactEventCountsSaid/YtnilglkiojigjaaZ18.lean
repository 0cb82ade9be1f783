/- Steps of the proof, joined from several texts: FE O3 EP EV EW. -/
import Derived.Test.YtnilglkiojigjaaZ1
import Derived.Test.YtnilglkiojigjaaZ3
import Derived.Test.YtnilglkiojigjaaZ7
import Derived.Test.YtnilglkiojigjaaZ4
import Derived.Deep.DeepCutAuto

/- Slices of Event: how they are read and owned, and the helpers of the laws on them. -/
namespace Go.Proofs.Ytnilglkiojigjaa
open Go.RowKit

structure EventD where
  kind : Int
  place : Int
  count : Int
  bed : Int
  carrier : Int
  dir : Int
instance : DecidableEq EventD := fun a b => decidable_of_iff (a.kind = b.kind ∧ a.place = b.place ∧ a.count = b.count ∧ a.bed = b.bed ∧ a.carrier = b.carrier ∧ a.dir = b.dir) ⟨fun h => by cases a; cases b; simp_all, fun h => by simp [h]⟩
def cellsEvent : List EventD → List Value
  | [] => []
  | p :: ps => .int .i64 p.kind :: .int .i64 p.place :: .int .i64 p.count :: .int .i64 p.bed :: .int .i64 p.carrier :: .int .i64 p.dir :: cellsEvent ps

theorem cellsEvent_length (ps : List EventD) : (cellsEvent ps).length = ps.length * 6 := by
  induction ps with
  | nil => rfl
  | cons p ps ih => simp [cellsEvent, ih]; omega
theorem cellsEvent_snoc (ps : List EventD) (p : EventD) : cellsEvent (ps ++ [p]) = cellsEvent ps ++ [.int .i64 p.kind, .int .i64 p.place, .int .i64 p.count, .int .i64 p.bed, .int .i64 p.carrier, .int .i64 p.dir] := by
  induction ps with
  | nil => rfl
  | cons q ps ih => simp [cellsEvent, ih]
theorem cellsEvent_at {ps : List EventD} {i : Nat} {p : EventD} (h : ps[i]? = some p) : (cellsEvent ps)[i * 6]? = some (.int .i64 p.kind) ∧ (cellsEvent ps)[i * 6 + 1]? = some (.int .i64 p.place) ∧ (cellsEvent ps)[i * 6 + 2]? = some (.int .i64 p.count) ∧ (cellsEvent ps)[i * 6 + 3]? = some (.int .i64 p.bed) ∧ (cellsEvent ps)[i * 6 + 4]? = some (.int .i64 p.carrier) ∧ (cellsEvent ps)[i * 6 + 5]? = some (.int .i64 p.dir) := by
  induction ps generalizing i with
  | nil => simp at h
  | cons q ps ih =>
    cases i with
    | zero =>
      simp at h
      subst h
      simp [cellsEvent]
    | succ i =>
      have := ih (i := i) (by simpa using h)
      simp only [Nat.succ_mul, cellsEvent]
      simpa [Nat.add_right_comm] using this
def Events (w : World) (A : Option Addr) (ps : List EventD) : Prop :=
  ∀ k, k < ps.length → ∃ b off p, A = some ⟨b, off, none⟩ ∧ ps[k]? = some p ∧ w.cell? ⟨b, off + k * 6, none⟩ = some (.int .i64 p.kind) ∧ w.cell? ⟨b, off + k * 6 + 1, none⟩ = some (.int .i64 p.place) ∧ w.cell? ⟨b, off + k * 6 + 2, none⟩ = some (.int .i64 p.count) ∧ w.cell? ⟨b, off + k * 6 + 3, none⟩ = some (.int .i64 p.bed) ∧ w.cell? ⟨b, off + k * 6 + 4, none⟩ = some (.int .i64 p.carrier) ∧ w.cell? ⟨b, off + k * 6 + 5, none⟩ = some (.int .i64 p.dir)
theorem Events.of_cells {w w' : World} {A : Option Addr} {ps : List EventD} (h : Events w A ps) (hk : ∀ a v, w.cell? a = some v → w'.cell? a = some v) : Events w' A ps :=
  fun k hk' => by
    obtain ⟨b, off, p, hA, hp, h0, h1, h2, h3, h4, h5⟩ := h k hk'
    exact ⟨b, off, p, hA, hp, hk _ _ h0, hk _ _ h1, hk _ _ h2, hk _ _ h3, hk _ _ h4, hk _ _ h5⟩
theorem Events.below {w w' : World} {A : Option Addr} {ps : List EventD} (h : Events w A ps) (hb : Below w.heap.size w w') : Events w' A ps := h.of_cells (cells_below hb)
theorem Events.drewN {w : World} {A : Option Addr} {ps : List EventD} (h : Events w A ps) (n : Nat) : Events (w.drewN n) A ps := h
theorem Events.nil {w : World} {A : Option Addr} : Events w A [] := fun k hk => by simp at hk

/-- A slice of Event that is the call's own. -/
abbrev OwnEvent (w : World) (lo hi : Nat) (A : Option Addr) (c : Nat) (ps : List EventD) : Prop := OwnC w lo hi 97 6 A ps.length c (cellsEvent ps)
theorem OwnC.events {w : World} {lo hi n : Nat} {A : Option Addr} {c : Nat} {ps : List EventD} (h : OwnC w lo hi 97 6 A n c (cellsEvent ps)) : Events w A ps := by
  intro k hk
  have hp : ps[k]? = some ps[k] := List.getElem?_eq_getElem hk
  obtain ⟨e0, e1, e2, e3, e4, e5⟩ := cellsEvent_at hp
  have hl := cellsEvent_length ps
  have hk3 : k * 6 + 5 < ps.length * 6 := by omega
  obtain ⟨g0, hA0, _, _, c0, _⟩ := h.cell (j := k * 6) (by omega)
  rw [List.getElem?_eq_getElem (by omega)] at e0
  injection e0 with e0
  rw [e0] at c0
  subst hA0
  obtain ⟨g1, hA1, _, _, c1, _⟩ := h.cell (j := k * 6 + 1) (by omega)
  rw [List.getElem?_eq_getElem (by omega)] at e1
  injection e1 with e1
  rw [e1] at c1
  injection hA1 with hA1
  injection hA1 with hA1
  subst hA1
  obtain ⟨g2, hA2, _, _, c2, _⟩ := h.cell (j := k * 6 + 2) (by omega)
  rw [List.getElem?_eq_getElem (by omega)] at e2
  injection e2 with e2
  rw [e2] at c2
  injection hA2 with hA2
  injection hA2 with hA2
  subst hA2
  obtain ⟨g3, hA3, _, _, c3, _⟩ := h.cell (j := k * 6 + 3) (by omega)
  rw [List.getElem?_eq_getElem (by omega)] at e3
  injection e3 with e3
  rw [e3] at c3
  injection hA3 with hA3
  injection hA3 with hA3
  subst hA3
  obtain ⟨g4, hA4, _, _, c4, _⟩ := h.cell (j := k * 6 + 4) (by omega)
  rw [List.getElem?_eq_getElem (by omega)] at e4
  injection e4 with e4
  rw [e4] at c4
  injection hA4 with hA4
  injection hA4 with hA4
  subst hA4
  obtain ⟨g5, hA5, _, _, c5, _⟩ := h.cell (j := k * 6 + 5) (by omega)
  rw [List.getElem?_eq_getElem (by omega)] at e5
  injection e5 with e5
  rw [e5] at c5
  injection hA5 with hA5
  injection hA5 with hA5
  subst hA5
  exact ⟨g0, 0, ps[k], rfl, hp, by simpa using c0, by simpa using c1, by simpa using c2, by simpa using c3, by simpa using c4, by simpa using c5⟩
theorem info_Event : (Try.prog.info? 97).map (fun i => (i.zero, i.size, i.bytes)) = some (some (.agg #[.int .i64 0, .int .i64 0, .int .i64 0, .int .i64 0, .int .i64 0, .int .i64 0]), 6, 48) := by kernel_rfl

theorem laws_szEventS (A : Option Addr) (n c : Nat) (l : Int) (w : World) (hl : n ≤ 9223372036854775807) (h0 : 0 ≤ l) (h1 : l ≤ 1048576) : Calls Try.prog 19 #[.slice A n c, .int .i64 l] w fun e w' => e = .returned (.int .i64 (szLeft l n)) ∧ w = w' := by
  by_cases h : l < n
  · go_enter Try.func19, Try.ntmps19
    go_wp2
    go_ret
    exact ⟨ret_int (by rw [szLeft, if_pos (by assumption)]), rfl⟩
  · go_enter Try.func19, Try.ntmps19
    go_wp2
    go_ret
    exact ⟨ret_int (by rw [szLeft, if_neg (by omega)]), rfl⟩

theorem laws_toEvent (x0 x1 x2 x3 x4 x5 : Int) (w : World) : Calls Try.prog 74 #[.agg #[.int .i64 x0, .int .i64 x1, .int .i64 x2, .int .i64 x3, .int .i64 x4, .int .i64 x5]] w fun e w' => e = .returned (.agg #[.int .i64 x0, .int .i64 x1, .int .i64 x2, .int .i64 x3, .int .i64 x4, .int .i64 x5]) ∧ Below w.heap.size w w' := by
  go_enter Try.func74, Try.ntmps74
  go_wp2_with (fail)
  refine bodyPost_ret (v := .agg #[.int .i64 x0, .int .i64 x1, .int .i64 x2, .int .i64 x3, .int .i64 x4, .int .i64 x5]) (by simp [results, Try.results74, go_sem]) rfl ⟨rfl, by (repeat (first | exact Below.refl _ _ | assumption | apply Below.drew | apply below_drewN | (refine Below.alloc ?_ (by first | omega | (simp; done) | (simp; omega)) _) | (refine Below.setCell ?_ (by first | omega | (simp; done) | (simp; omega)) _)))⟩

set_option maxHeartbeats 1000000 in
theorem laws_toEventS (A : Option Addr) (c : Nat) (ps : List EventD) (w : World) (h : Events w A ps) (hl : ps.length ≤ 1048576) :
    Calls Try.prog 21 #[.slice A ps.length c] w fun e w' => ∃ A' c', e = .returned (.slice A' ps.length c') ∧ OwnEvent w' w.heap.size w'.heap.size A' c' ps ∧ Below w.heap.size w w' := by
  obtain ⟨i0, hi0, hz0, hz1, hz2⟩ := info_parts info_Event
  have hlen : ps.length ≤ 9223372036854775807 := by omega
  go_enter Try.func21, Try.ntmps21
  go_wp2_with (refine wpList_make_full _ rfl (.tmp 6) (.tmp 6) _ rfl w.heap.size 97 i0 _ 6 Try.underlying38 hi0 hz0 hz1 .i64 .i64 _ _ ps.length rfl rfl rfl rfl (by rw [hz2]; omega) (by unfold maxLen; omega) (Nat.le_refl _) ?_; intro w1 hown hg)
  have hb1 : Below w.heap.size w w1 := (Below.refl _ _).grown hg (Nat.le_refl _) (by simp)
  go_loopw [4] (fun i wr => ∃ (k : Nat) (cs : List Value), k ≤ ps.length ∧ i = .int .i64 k ∧ wr.ownsRow w.heap.size 97 6 (.slice (some ⟨w.heap.size, 0, none⟩) ps.length ps.length) ps.length cs ∧ cs.take (k * 6) = cellsEvent (ps.take k) ∧ Below w.heap.size w wr) (fun i _ => ps.length - (intOf i).toNat)
  case atStart => exact ⟨0, _, Nat.zero_le _, rfl, hown, by simp [cellsEvent], hb1⟩
  case round =>
    clear hown hg hb1
    obtain ⟨k, cs, hk, rfl, hown, htk, hb⟩ := hrel
    have hcl : cs.length = ps.length * 6 := hown.1
    have HT := Lib.hid htk; clear htk
    have HC := Lib.hid hcl; clear hcl
    by_cases hlt : k < ps.length
    · obtain ⟨b, off, p, rfl, hp, h0, h1, h2, h3, h4, h5⟩ := h k hlt
      have HP := Lib.hid hp; clear hp
      replace h0 := cells_below hb _ _ h0
      replace h1 := cells_below hb _ _ h1
      replace h2 := cells_below hb _ _ h2
      replace h3 := cells_below hb _ _ h3
      replace h4 := cells_below hb _ _ h4
      replace h5 := cells_below hb _ _ h5
      have hgl : w.heap.size < wr.heap.size := (hown.lt _ rfl).2
      go_wp2_with (fail)
      refine (laws_toEvent _ _ _ _ _ _ _).mono ?_; rintro e w2 ⟨rfl, b2⟩
      have ho2 : OwnC w2 w.heap.size wr.heap.size 97 6 (some ⟨w.heap.size, 0, none⟩) ps.length ps.length cs := (OwnC.of_own hown (Nat.le_refl _)).below b2 (Nat.le_refl _)
      have hb2 := hb.trans (b2.mono hb.size)
      obtain ⟨_, hA0, _, _, q0, f0⟩ := ho2.cell (j := k * 6) (by rw [HC.out]; omega)
      injection hA0 with hA0
      injection hA0 with hA0
      subst hA0
      obtain ⟨_, hA1, _, _, q1, f1⟩ := ho2.cell (j := k * 6 + 1) (by rw [HC.out]; omega)
      injection hA1 with hA1
      injection hA1 with hA1
      subst hA1
      obtain ⟨_, hA2, _, _, q2, f2⟩ := ho2.cell (j := k * 6 + 2) (by rw [HC.out]; omega)
      injection hA2 with hA2
      injection hA2 with hA2
      subst hA2
      obtain ⟨_, hA3, _, _, q3, f3⟩ := ho2.cell (j := k * 6 + 3) (by rw [HC.out]; omega)
      injection hA3 with hA3
      injection hA3 with hA3
      subst hA3
      obtain ⟨_, hA4, _, _, q4, f4⟩ := ho2.cell (j := k * 6 + 4) (by rw [HC.out]; omega)
      injection hA4 with hA4
      injection hA4 with hA4
      subst hA4
      obtain ⟨_, hA5, _, _, q5, f5⟩ := ho2.cell (j := k * 6 + 5) (by rw [HC.out]; omega)
      injection hA5 with hA5
      injection hA5 with hA5
      subst hA5
      go_wp2_with (fail)
      go_roundw
      case rel =>
        refine ⟨k + 1, ((((((cs.set (k * 6) (.int .i64 p.kind)).set (k * 6 + 1) (.int .i64 p.place)).set (k * 6 + 2) (.int .i64 p.count)).set (k * 6 + 3) (.int .i64 p.bed)).set (k * 6 + 4) (.int .i64 p.carrier)).set (k * 6 + 5) (.int .i64 p.dir)), by omega, by go_num, ?_, ?_, Below.setCell (Below.setCell (Below.setCell (Below.setCell (Below.setCell (Below.setCell hb2 (Nat.le_refl _) _) (Nat.le_refl _) _) (Nat.le_refl _) _) (Nat.le_refl _) _) (Nat.le_refl _) _) (Nat.le_refl _) _⟩
        · exact ((((((ho2.store _).1.store _).1.store _).1.store _).1.store _).1.store _).1.own
        · rw [take_snoc HP.out, cellsEvent_snoc, ← HT.out]
          exact take_set6 cs (k * 6) _ (by rw [Nat.succ_mul]) (by rw [HC.out]; omega) _ _ _ _ _ _
      case measure => simp [intOf]; omega
    · go_wp2
      go_ret
      have : k = ps.length := by omega
      subst this
      have e : cs = cellsEvent ps := by
        have := HT.out
        rwa [take_all (by rw [HC.out]; exact Nat.le_refl _), take_all (Nat.le_refl _)] at this
      subst e
      exact ⟨_, _, rfl, OwnC.of_own hown (Nat.le_refl _), hb⟩

theorem laws_eqEvent (x0 x1 x2 x3 x4 x5 y0 y1 y2 y3 y4 y5 : Int) (w : World) : Calls Try.prog 76 #[.agg #[.int .i64 x0, .int .i64 x1, .int .i64 x2, .int .i64 x3, .int .i64 x4, .int .i64 x5], .agg #[.int .i64 y0, .int .i64 y1, .int .i64 y2, .int .i64 y3, .int .i64 y4, .int .i64 y5]] w fun e w' => e = .returned (.bool (decide ((⟨x0, x1, x2, x3, x4, x5⟩ : EventD) = ⟨y0, y1, y2, y3, y4, y5⟩))) ∧ Below w.heap.size w w' := by
  by_cases e0 : x0 = y0
  · subst e0
    by_cases e1 : x1 = y1
    · subst e1
      by_cases e2 : x2 = y2
      · subst e2
        by_cases e3 : x3 = y3
        · subst e3
          by_cases e4 : x4 = y4
          · subst e4
            by_cases e5 : x5 = y5
            · subst e5
              go_enter Try.func76, Try.ntmps76
              go_wp2_with (fail)
              go_ret
              exact ⟨ret_bool (by simp), by (repeat (first | exact Below.refl _ _ | assumption | apply Below.drew | apply below_drewN | (refine Below.alloc ?_ (by first | omega | (simp; done) | (simp; omega)) _) | (refine Below.setCell ?_ (by first | omega | (simp; done) | (simp; omega)) _)))⟩
            · have e' : (x5 != y5) = true := by simpa using e5
              go_enter Try.func76, Try.ntmps76
              go_wp2_with (fail)
              go_ret
              exact ⟨ret_bool (by simp [e5]), by (repeat (first | exact Below.refl _ _ | assumption | apply Below.drew | apply below_drewN | (refine Below.alloc ?_ (by first | omega | (simp; done) | (simp; omega)) _) | (refine Below.setCell ?_ (by first | omega | (simp; done) | (simp; omega)) _)))⟩
          · have e' : (x4 != y4) = true := by simpa using e4
            go_enter Try.func76, Try.ntmps76
            go_wp2_with (fail)
            go_ret
            exact ⟨ret_bool (by simp [e4]), by (repeat (first | exact Below.refl _ _ | assumption | apply Below.drew | apply below_drewN | (refine Below.alloc ?_ (by first | omega | (simp; done) | (simp; omega)) _) | (refine Below.setCell ?_ (by first | omega | (simp; done) | (simp; omega)) _)))⟩
        · have e' : (x3 != y3) = true := by simpa using e3
          go_enter Try.func76, Try.ntmps76
          go_wp2_with (fail)
          go_ret
          exact ⟨ret_bool (by simp [e3]), by (repeat (first | exact Below.refl _ _ | assumption | apply Below.drew | apply below_drewN | (refine Below.alloc ?_ (by first | omega | (simp; done) | (simp; omega)) _) | (refine Below.setCell ?_ (by first | omega | (simp; done) | (simp; omega)) _)))⟩
      · have e' : (x2 != y2) = true := by simpa using e2
        go_enter Try.func76, Try.ntmps76
        go_wp2_with (fail)
        go_ret
        exact ⟨ret_bool (by simp [e2]), by (repeat (first | exact Below.refl _ _ | assumption | apply Below.drew | apply below_drewN | (refine Below.alloc ?_ (by first | omega | (simp; done) | (simp; omega)) _) | (refine Below.setCell ?_ (by first | omega | (simp; done) | (simp; omega)) _)))⟩
    · have e' : (x1 != y1) = true := by simpa using e1
      go_enter Try.func76, Try.ntmps76
      go_wp2_with (fail)
      go_ret
      exact ⟨ret_bool (by simp [e1]), by (repeat (first | exact Below.refl _ _ | assumption | apply Below.drew | apply below_drewN | (refine Below.alloc ?_ (by first | omega | (simp; done) | (simp; omega)) _) | (refine Below.setCell ?_ (by first | omega | (simp; done) | (simp; omega)) _)))⟩
  · have e' : (x0 != y0) = true := by simpa using e0
    go_enter Try.func76, Try.ntmps76
    go_wp2_with (fail)
    go_ret
    exact ⟨ret_bool (by simp [e0]), by (repeat (first | exact Below.refl _ _ | assumption | apply Below.drew | apply below_drewN | (refine Below.alloc ?_ (by first | omega | (simp; done) | (simp; omega)) _) | (refine Below.setCell ?_ (by first | omega | (simp; done) | (simp; omega)) _)))⟩

set_option maxHeartbeats 2000000 in
theorem laws_eqEventS (A B : Option Addr) (c d : Nat) (ps qs : List EventD) (w : World) (h : Events w A ps) (h' : Events w B qs) (hl : ps.length ≤ 1000000000000) (_hl' : qs.length ≤ 1000000000000) :
    Calls Try.prog 23 #[.slice A ps.length c, .slice B qs.length d] w fun e w' => e = .returned (.bool (decide (ps = qs))) ∧ Below w.heap.size w w' := by
  by_cases hle : ps.length = qs.length
  · have HL := Lib.hid hle
    have hle' : ((ps.length : Int) != (qs.length : Int)) = false := by simp [hle]
    clear hle
    go_enter Try.func23, Try.ntmps23
    go_wp2
    go_loopw [5] (fun i wr => ∃ (k : Nat), k ≤ ps.length ∧ i = .int .i64 k ∧ ps.take k = qs.take k ∧ Below w.heap.size w wr) (fun i _ => ps.length - (intOf i).toNat)
    case atStart => exact ⟨0, Nat.zero_le _, rfl, rfl, Below.refl _ _⟩
    case round =>
      obtain ⟨k, hk, rfl, htk, hb⟩ := hrel
      have HT := Lib.hid htk; clear htk
      by_cases hlt : k < ps.length
      · have hlt' : k < qs.length := by rw [← HL.out]; exact hlt
        obtain ⟨b, off, p, rfl, hp, h0, h1, h2, h3, h4, h5⟩ := h k hlt
        obtain ⟨b', off', q, rfl, hq, h0', h1', h2', h3', h4', h5'⟩ := h' k hlt'
        have HP := Lib.hid hp; clear hp
        have HQ := Lib.hid hq; clear hq
        replace h0 := cells_below hb _ _ h0
        replace h0' := cells_below hb _ _ h0'
        replace h1 := cells_below hb _ _ h1
        replace h1' := cells_below hb _ _ h1'
        replace h2 := cells_below hb _ _ h2
        replace h2' := cells_below hb _ _ h2'
        replace h3 := cells_below hb _ _ h3
        replace h3' := cells_below hb _ _ h3'
        replace h4 := cells_below hb _ _ h4
        replace h4' := cells_below hb _ _ h4'
        replace h5 := cells_below hb _ _ h5
        replace h5' := cells_below hb _ _ h5'
        have j1 : (0 : Int) ≤ (k : Int) := by omega
        have j2 : (k : Int) < (ps.length : Int) := by omega
        have j3 : (k : Int) < (qs.length : Int) := by omega
        by_cases hpq : p = q
        · subst hpq
          go_wp2_with (fail)
          go_region_held3 (fun W' => (W'.cell? ⟨b, off + k * 6, none⟩ = some (.int .i64 p.kind) ∧ W'.cell? ⟨b, off + k * 6 + 1, none⟩ = some (.int .i64 p.place) ∧ W'.cell? ⟨b, off + k * 6 + 2, none⟩ = some (.int .i64 p.count) ∧ W'.cell? ⟨b, off + k * 6 + 3, none⟩ = some (.int .i64 p.bed) ∧ W'.cell? ⟨b, off + k * 6 + 4, none⟩ = some (.int .i64 p.carrier) ∧ W'.cell? ⟨b, off + k * 6 + 5, none⟩ = some (.int .i64 p.dir)) ∧ (W'.cell? ⟨b', off' + k * 6, none⟩ = some (.int .i64 p.kind) ∧ W'.cell? ⟨b', off' + k * 6 + 1, none⟩ = some (.int .i64 p.place) ∧ W'.cell? ⟨b', off' + k * 6 + 2, none⟩ = some (.int .i64 p.count) ∧ W'.cell? ⟨b', off' + k * 6 + 3, none⟩ = some (.int .i64 p.bed) ∧ W'.cell? ⟨b', off' + k * 6 + 4, none⟩ = some (.int .i64 p.carrier) ∧ W'.cell? ⟨b', off' + k * 6 + 5, none⟩ = some (.int .i64 p.dir))) (first | exact ⟨⟨h0, h1, h2, h3, h4, h5⟩, h0', h1', h2', h3', h4', h5'⟩ | exact ⟨⟨cells_below b2 _ _ h0, cells_below b2 _ _ h1, cells_below b2 _ _ h2, cells_below b2 _ _ h3, cells_below b2 _ _ h4, cells_below b2 _ _ h5⟩, cells_below b2 _ _ h0', cells_below b2 _ _ h1', cells_below b2 _ _ h2', cells_below b2 _ _ h3', cells_below b2 _ _ h4', cells_below b2 _ _ h5'⟩)
            (first | (go_at_call 76; refine (laws_eqEvent _ _ _ _ _ _ _ _ _ _ _ _ _).mono ?_; rintro e w2 ⟨rfl, b2⟩; replace b2 := undrew b2))
          go_wp2_with (fail)
          go_roundw
          case rel => exact ⟨k + 1, by omega, by go_num, by rw [take_snoc HP.out, take_snoc HQ.out, HT.out], hb.trans (b2.mono hb.size)⟩
          case measure => simp [intOf]; omega
        · have hpq' : decide (p = q) = false := decide_eq_false hpq
          go_wp2_with (fail)
          go_region_held3 (fun W' => (W'.cell? ⟨b, off + k * 6, none⟩ = some (.int .i64 p.kind) ∧ W'.cell? ⟨b, off + k * 6 + 1, none⟩ = some (.int .i64 p.place) ∧ W'.cell? ⟨b, off + k * 6 + 2, none⟩ = some (.int .i64 p.count) ∧ W'.cell? ⟨b, off + k * 6 + 3, none⟩ = some (.int .i64 p.bed) ∧ W'.cell? ⟨b, off + k * 6 + 4, none⟩ = some (.int .i64 p.carrier) ∧ W'.cell? ⟨b, off + k * 6 + 5, none⟩ = some (.int .i64 p.dir)) ∧ (W'.cell? ⟨b', off' + k * 6, none⟩ = some (.int .i64 q.kind) ∧ W'.cell? ⟨b', off' + k * 6 + 1, none⟩ = some (.int .i64 q.place) ∧ W'.cell? ⟨b', off' + k * 6 + 2, none⟩ = some (.int .i64 q.count) ∧ W'.cell? ⟨b', off' + k * 6 + 3, none⟩ = some (.int .i64 q.bed) ∧ W'.cell? ⟨b', off' + k * 6 + 4, none⟩ = some (.int .i64 q.carrier) ∧ W'.cell? ⟨b', off' + k * 6 + 5, none⟩ = some (.int .i64 q.dir))) (first | exact ⟨⟨h0, h1, h2, h3, h4, h5⟩, h0', h1', h2', h3', h4', h5'⟩ | exact ⟨⟨cells_below b2 _ _ h0, cells_below b2 _ _ h1, cells_below b2 _ _ h2, cells_below b2 _ _ h3, cells_below b2 _ _ h4, cells_below b2 _ _ h5⟩, cells_below b2 _ _ h0', cells_below b2 _ _ h1', cells_below b2 _ _ h2', cells_below b2 _ _ h3', cells_below b2 _ _ h4', cells_below b2 _ _ h5'⟩)
            (first | (go_at_call 76; refine (laws_eqEvent _ _ _ _ _ _ _ _ _ _ _ _ _).mono ?_; rintro e w2 ⟨rfl, b2⟩; replace b2 := undrew b2))
          go_wp2_with (fail)
          go_ret
          exact ⟨ret_bool (by simpa using ne_of_getElem? HP.out HQ.out hpq), hb.trans (b2.mono hb.size)⟩
      · go_wp2
        go_ret
        have : k = ps.length := by omega
        subst this
        have e := HT.out
        rw [take_all (Nat.le_refl _), take_all (by rw [HL.out]; exact Nat.le_refl _)] at e
        exact ⟨ret_bool (by simpa using e), hb⟩
  · have hle' : ((ps.length : Int) != (qs.length : Int)) = true := by simp; omega
    go_enter Try.func23, Try.ntmps23
    go_wp2
    go_ret
    exact ⟨ret_bool (by simp; intro e; exact hle (by rw [e])), Below.refl _ _⟩

def marksEvent (k : Int) (m : Nat) : List EventD := (List.range m).map fun (i : Nat) => ⟨k + 6 * i, k + 6 * i + 1, k + 6 * i + 2, k + 6 * i + 3, k + 6 * i + 4, k + 6 * i + 5⟩
theorem marksEvent_length (k : Int) (m : Nat) : (marksEvent k m).length = m := by simp [marksEvent]
theorem marksEvent_snoc (k : Int) (m : Nat) : marksEvent k (m + 1) = marksEvent k m ++ [⟨k + 6 * m, k + 6 * m + 1, k + 6 * m + 2, k + 6 * m + 3, k + 6 * m + 4, k + 6 * m + 5⟩] := by simp [marksEvent, List.range_succ]
theorem marksEvent_at {k : Int} {m i : Nat} {p : EventD} (h : (marksEvent k m)[i]? = some p) : p = ⟨k + 6 * i, k + 6 * i + 1, k + 6 * i + 2, k + 6 * i + 3, k + 6 * i + 4, k + 6 * i + 5⟩ := by
  simp only [marksEvent, List.getElem?_map, Option.map_eq_some_iff] at h
  obtain ⟨j, hj, rfl⟩ := h
  obtain ⟨hl, he⟩ := List.getElem?_eq_some_iff.1 hj
  simp at he
  subst he
  rfl

set_option maxHeartbeats 1000000 in
theorem laws_markEventS (A : Option Addr) (c : Nat) (ps : List EventD) (k0 : Int) (lo hi : Nat) (w : World) (h : OwnEvent w lo hi A c ps) (hk0 : 0 ≤ k0) (hk1 : k0 + 6 * ps.length ≤ 1000000000000) :
    Calls Try.prog 24 #[.slice A ps.length c, .int .i64 k0] w fun e w' => e = .returned (.int .i64 (k0 + 6 * ps.length)) ∧ OwnC w' lo hi 97 6 A ps.length c (cellsEvent (marksEvent k0 ps.length)) ∧ Upd lo hi w w' := by
  have hlen : ps.length ≤ 9223372036854775807 := by omega
  go_enter Try.func24, Try.ntmps24
  go_wp2
  go_loopw [1, 5] (fun kv i wr => ∃ (k : Nat) (cs : List Value), k ≤ ps.length ∧ i = .int .i64 k ∧ kv = .int .i64 (k0 + 6 * k) ∧ OwnC wr lo hi 97 6 A ps.length c cs ∧ cs.take (k * 6) = cellsEvent (marksEvent k0 k) ∧ Upd lo hi w wr) (fun _ i _ => ps.length - (intOf i).toNat)
  case atStart => exact ⟨0, _, Nat.zero_le _, rfl, by simp, h, by simp [marksEvent, cellsEvent], Upd.refl _ _ _⟩
  case round =>
    clear h
    obtain ⟨k, cs, hk, rfl, rfl, ho, htk, hu⟩ := hrel
    have hcl : cs.length = ps.length * 6 := ho.len
    have HT := Lib.hid htk; clear htk
    have HC := Lib.hid hcl; clear hcl
    by_cases hlt : k < ps.length
    · obtain ⟨g, rfl, hg1, hg2, q0, f0⟩ := ho.cell (j := k * 6) (by rw [HC.out]; omega)
      obtain ⟨_, hA1, _, _, q1, f1⟩ := ho.cell (j := k * 6 + 1) (by rw [HC.out]; omega)
      injection hA1 with hA1
      injection hA1 with hA1
      subst hA1
      obtain ⟨_, hA2, _, _, q2, f2⟩ := ho.cell (j := k * 6 + 2) (by rw [HC.out]; omega)
      injection hA2 with hA2
      injection hA2 with hA2
      subst hA2
      obtain ⟨_, hA3, _, _, q3, f3⟩ := ho.cell (j := k * 6 + 3) (by rw [HC.out]; omega)
      injection hA3 with hA3
      injection hA3 with hA3
      subst hA3
      obtain ⟨_, hA4, _, _, q4, f4⟩ := ho.cell (j := k * 6 + 4) (by rw [HC.out]; omega)
      injection hA4 with hA4
      injection hA4 with hA4
      subst hA4
      obtain ⟨_, hA5, _, _, q5, f5⟩ := ho.cell (j := k * 6 + 5) (by rw [HC.out]; omega)
      injection hA5 with hA5
      injection hA5 with hA5
      subst hA5
      go_wp2_with (fail)
      go_roundw
      case rel =>
        refine ⟨k + 1, ((((((cs.set (k * 6) (.int .i64 (k0 + 6 * k))).set (k * 6 + 1) (.int .i64 (k0 + 6 * k + 1))).set (k * 6 + 2) (.int .i64 (k0 + 6 * k + 1 + 1))).set (k * 6 + 3) (.int .i64 (k0 + 6 * k + 1 + 1 + 1))).set (k * 6 + 4) (.int .i64 (k0 + 6 * k + 1 + 1 + 1 + 1))).set (k * 6 + 5) (.int .i64 (k0 + 6 * k + 1 + 1 + 1 + 1 + 1))), by omega, by go_num, by push_cast; go_num, ((((((ho.store _).1.store _).1.store _).1.store _).1.store _).1.store _).1, ?_, Upd.setCell (Upd.setCell (Upd.setCell (Upd.setCell (Upd.setCell (Upd.setCell (hu) hg1 hg2 _) hg1 hg2 _) hg1 hg2 _) hg1 hg2 _) hg1 hg2 _) hg1 hg2 _⟩
        rw [marksEvent_snoc, cellsEvent_snoc, ← HT.out]
        rw [take_set6 cs (k * 6) _ (by rw [Nat.succ_mul]) (by rw [HC.out]; omega)]
        simp [Int.add_assoc]
      case measure => simp [intOf]; omega
    · go_wp2
      go_ret
      have : k = ps.length := by omega
      subst this
      have e : cs = cellsEvent (marksEvent k0 ps.length) := by
        have := HT.out
        rwa [take_all (by rw [HC.out]; exact Nat.le_refl _)] at this
      subst e
      exact ⟨rfl, ho, hu⟩

set_option maxHeartbeats 1000000 in
theorem laws_heldEventS (A : Option Addr) (c m : Nat) (k0 : Int) (w : World) (h : Events w A (marksEvent k0 m)) (hk0 : 0 ≤ k0) (hk1 : k0 + 6 * m ≤ 1000000000000) :
    Calls Try.prog 44 #[.slice A m c, .int .i64 k0] w fun e w' => e = .returned (.int .i64 (k0 + 6 * m)) ∧ w = w' := by
  go_enter Try.func44, Try.ntmps44
  go_wp2
  go_loop [1, 5] (fun kv i => ∃ (k : Nat), k ≤ m ∧ i = .int .i64 k ∧ kv = .int .i64 (k0 + 6 * k)) (fun _ i => m - (intOf i).toNat)
  case atStart => exact ⟨0, Nat.zero_le _, rfl, by simp⟩
  case round =>
    obtain ⟨k, hk, rfl, rfl⟩ := hrel
    by_cases hlt : k < m
    · obtain ⟨b, off, p, rfl, hp, h0, h1, h2, h3, h4, h5⟩ := h k (by rw [marksEvent_length]; exact hlt)
      obtain rfl := marksEvent_at hp
      clear hp
      go_wp2_with (fail)
      go_round
      case rel => exact ⟨k + 1, by omega, by go_num, by push_cast; go_num⟩
      case measure => simp [intOf]; omega
    · go_wp2
      go_ret
      have : k = m := by omega
      subst this
      exact ⟨rfl, rfl⟩

end Go.Proofs.Ytnilglkiojigjaa

/- Arguments of the laws, opened: slices of events. -/
namespace Go.Proofs.Ytnilglkiojigjaa
open Go.ChangeShapes Go.WideShapes Go.ChangeAt Go.RowKit
open Go.ChangeMaps (open_string shut_string)

section
variable {H : Type} {enc : TypeId × Value → H} {W : World} {base : Nat} {v : Value} {d : DataW H} {p : List MemPlace}

set_option maxRecDepth 100000 in
theorem open_Events (hv : Value.okWide Try.prog W .any base 34 v) (h : DataW.Trod enc Try.prog W 0 (fun _ => true) true 34 v d p) :
    ∃ A c xs, v = .slice A xs.length c ∧ Events W A xs ∧ xs.length ≤ 9223372036854775807 := by
  obtain ⟨A0, n0, c0, rfl⟩ := okWide_slice Try.underlying34 hv
  obtain ⟨fuel, hf⟩ := h
  obtain ⟨A, len, cap, n, hcs, hl, hi⟩ := slice_rows Try.underlying34 (sz := 6) (by kernel_rfl) (by decide) hf
  simp [Value.cells] at hcs
  obtain ⟨rfl, rfl, rfl⟩ := hcs
  obtain ⟨ps, rfl, hx⟩ := collect (P := fun i (p : EventD) => ∃ b off, A0 = some ⟨b, off, none⟩ ∧ W.cell? ⟨b, off + i * 6, none⟩ = some (.int .i64 p.kind) ∧ W.cell? ⟨b, off + i * 6 + 1, none⟩ = some (.int .i64 p.place) ∧ W.cell? ⟨b, off + i * 6 + 2, none⟩ = some (.int .i64 p.count) ∧ W.cell? ⟨b, off + i * 6 + 3, none⟩ = some (.int .i64 p.bed) ∧ W.cell? ⟨b, off + i * 6 + 4, none⟩ = some (.int .i64 p.carrier) ∧ W.cell? ⟨b, off + i * 6 + 5, none⟩ = some (.int .i64 p.dir)) n0 fun i hil => by
    obtain ⟨b, off, cs', y, rfl, hcl, hat, ht⟩ := hi i hil
    obtain ⟨ys, n', _, _, _, hyl, hf⟩ := DataW.trod_struct Try.underlying99 ht
    have c1 : Try.prog.cellsOf 2 = 1 := by kernel_rfl
    match cs', hcl, ys, hyl with
    | [z0, z1, z2, z3, z4, z5], _, [y0, y1, y2, y3, y4, y5], _ =>
      have f0 := hf 0 _ rfl
      have f1 := hf 1 _ rfl
      have f2 := hf 2 _ rfl
      have f3 := hf 3 _ rfl
      have f4 := hf 4 _ rfl
      have f5 := hf 5 _ rfl
      simp [c1] at f0 f1 f2 f3 f4 f5
      obtain ⟨a0, e0, _, _⟩ := DataW.trod_int Try.underlying2 f0
      obtain ⟨a1, e1, _, _⟩ := DataW.trod_int Try.underlying2 f1
      obtain ⟨a2, e2, _, _⟩ := DataW.trod_int Try.underlying2 f2
      obtain ⟨a3, e3, _, _⟩ := DataW.trod_int Try.underlying2 f3
      obtain ⟨a4, e4, _, _⟩ := DataW.trod_int Try.underlying2 f4
      obtain ⟨a5, e5, _, _⟩ := DataW.trod_int Try.underlying2 f5
      simp at e0 e1 e2 e3 e4 e5
      subst e0 e1 e2 e3 e4 e5
      exact ⟨⟨a0, a1, a2, a3, a4, a5⟩, b, off, rfl, by simpa using hat 0 (by decide), by simpa using hat 1 (by decide), by simpa using hat 2 (by decide), by simpa using hat 3 (by decide), by simpa using hat 4 (by decide), by simpa using hat 5 (by decide)⟩
  refine ⟨A0, c0, ps, rfl, fun k hk => ?_, hl⟩
  obtain ⟨b, off, h1, h2, h3, h4, h5, h6, h7⟩ := hx k _ (List.getElem?_eq_getElem hk)
  exact ⟨b, off, ps[k], h1, List.getElem?_eq_getElem hk, h2, h3, h4, h5, h6, h7⟩

end

end Go.Proofs.Ytnilglkiojigjaa

/- Events: the plain functions. -/
namespace Go.Proofs.Ytnilglkiojigjaa
open Go.RowKit

def plainE (e : EventD) : Bool := decide (e.bed = 0) && decide (e.carrier = 0) && decide (e.dir = 0)
def bedB (b : Int) : Bool := inR b 1 2
def yarnE (e : EventD) : Bool := bedB e.bed && carrierB e.carrier && dirB e.dir
def evOk (e : EventD) (n : Int) : Bool :=
  decide (0 ≤ e.place) && decide (e.place ≤ n) &&
    (if e.kind = 1 then plainE e && (decide (e.count = 1) || decide (e.count = -1)) && decide (e.place + 1 < n)
    else if e.kind = 2 then yarnE e && inR e.count 0 4 && decide (e.place + e.count ≤ n)
    else if e.kind = 3 then yarnE e && decide (e.count = 0)
    else if e.kind = 4 then plainE e && inR e.count 1 4 && decide (e.place + e.count ≤ n)
    else if e.kind = 5 then yarnE e && inR e.count 1 4 && (if e.bed = 1 then decide (e.place + e.count ≤ n) else decide (e.count ≤ e.place))
    else false)
def evNext (e : EventD) (n : Int) : Int := if e.kind = 2 then n - e.count + 1 else if e.kind = 3 ∨ e.kind = 5 then n + 1 else if e.kind = 4 then n - e.count else n
def strands : List EventD → Int → Option Int
  | [], n => some n
  | e :: es, n => if evOk e n && decide (evNext e n ≤ 12) then strands es (evNext e n) else none
def eventsB (es : List EventD) : Bool := (strands es 0).isSome && decide (es.length ≤ 2000)
def eventCounts (es : List EventD) : List Int := es.foldl (fun cs e => bump cs e.kind) [0, 0, 0, 0, 0]
def eventCountsP (es : List EventD) : List Int := if eventsB es then eventCounts es else []
def eventCode (es : List EventD) : Int := if eventsB es then 0 else 1

theorem evNext_ge {e : EventD} {n : Int} (h : evOk e n = true) (hn : 0 ≤ n) : 0 ≤ evNext e n := by
  unfold evOk at h
  unfold evNext
  simp only [Bool.and_eq_true, decide_eq_true_eq] at h
  obtain ⟨⟨h1, h2⟩, h3⟩ := h
  split
  · rename_i h4
    rw [if_neg (by omega), if_pos h4] at h3
    simp only [Bool.and_eq_true, decide_eq_true_eq] at h3
    omega
  · split
    · omega
    · split
      · rename_i h4 h5 h6
        rw [if_neg (by omega), if_neg (by omega), if_neg (by omega), if_pos h6] at h3
        simp only [Bool.and_eq_true, decide_eq_true_eq] at h3
        omega
      · exact hn
theorem evOk_kind {e : EventD} {n : Int} (h : evOk e n = true) : 1 ≤ e.kind ∧ e.kind ≤ 5 := by
  unfold evOk at h
  by_cases h1 : 1 ≤ e.kind ∧ e.kind ≤ 5
  · exact h1
  · rw [if_neg (by omega), if_neg (by omega), if_neg (by omega), if_neg (by omega), if_neg (by omega)] at h
    simp at h
theorem strands_kinds {es : List EventD} {n m : Int} (h : strands es n = some m) : ∀ e ∈ es, 1 ≤ e.kind ∧ e.kind ≤ 5 := by
  induction es generalizing n with
  | nil => simp
  | cons e es ih =>
    rw [strands] at h
    split at h
    · rename_i h1
      simp only [Bool.and_eq_true] at h1
      intro x hx
      rcases List.mem_cons.1 hx with rfl | hx
      · exact evOk_kind h1.1
      · exact ih h x hx
    · cases h
theorem eventsB_kinds {es : List EventD} (h : eventsB es = true) : es.length ≤ 2000 ∧ ∀ e ∈ es, 1 ≤ e.kind ∧ e.kind ≤ 5 := by
  unfold eventsB at h
  simp only [Bool.and_eq_true, decide_eq_true_eq] at h
  obtain ⟨m, hm⟩ := Option.isSome_iff_exists.1 h.1
  exact ⟨h.2, strands_kinds hm⟩
theorem eventCounts_length (es : List EventD) : (eventCounts es).length = 5 := by
  unfold eventCounts
  suffices h : ∀ cs : List Int, (es.foldl (fun cs e => bump cs e.kind) cs).length = cs.length by rw [h]; rfl
  induction es with
  | nil => intro cs; rfl
  | cons e r ih => intro cs; rw [List.foldl_cons, ih]; simp [bump]
theorem eventCountsP_length (es : List EventD) : (eventCountsP es).length ≤ 5 := by
  unfold eventCountsP
  split
  · rw [eventCounts_length]; omega
  · simp
theorem eventCounts_snoc {es : List EventD} {j : Nat} {e : EventD} (h : es[j]? = some e) : eventCounts (es.take (j + 1)) = bump (eventCounts (es.take j)) e.kind := by
  unfold eventCounts
  rw [take_snoc h, List.foldl_append]
  rfl
theorem strands_small {es : List EventD} {n m : Int} (h : strands es n = some m) (h0 : 0 ≤ n) (h1 : n ≤ 12) : 0 ≤ m ∧ m ≤ 12 := by
  induction es generalizing n with
  | nil => injection h with h; omega
  | cons e es ih =>
    rw [strands] at h
    split at h
    · rename_i h2
      simp only [Bool.and_eq_true, decide_eq_true_eq] at h2
      exact ih h (evNext_ge h2.1 h0) h2.2
    · cases h

end Go.Proofs.Ytnilglkiojigjaa

/- Events: whether they are valid, the given side. -/
namespace Go.Proofs.Ytnilglkiojigjaa
open Go Go.RowKit

theorem evOk_1 {e : EventD} {n : Int} (h0 : 0 ≤ e.place) (h1 : e.place ≤ n) (k : e.kind = 1) : evOk e n = (plainE e && (decide (e.count = 1) || decide (e.count = -1)) && decide (e.place + 1 < n)) ∧ evNext e n = n := by
  simp [evOk, evNext, h0, h1, k]
theorem evOk_2 {e : EventD} {n : Int} (h0 : 0 ≤ e.place) (h1 : e.place ≤ n) (k : e.kind = 2) : evOk e n = (yarnE e && inR e.count 0 4 && decide (e.place + e.count ≤ n)) ∧ evNext e n = n - e.count + 1 := by
  simp [evOk, evNext, h0, h1, k]
theorem evOk_3 {e : EventD} {n : Int} (h0 : 0 ≤ e.place) (h1 : e.place ≤ n) (k : e.kind = 3) : evOk e n = (yarnE e && decide (e.count = 0)) ∧ evNext e n = n + 1 := by
  simp [evOk, evNext, h0, h1, k]
theorem evOk_4 {e : EventD} {n : Int} (h0 : 0 ≤ e.place) (h1 : e.place ≤ n) (k : e.kind = 4) : evOk e n = (plainE e && inR e.count 1 4 && decide (e.place + e.count ≤ n)) ∧ evNext e n = n - e.count := by
  simp [evOk, evNext, h0, h1, k]
theorem evOk_5 {e : EventD} {n : Int} (h0 : 0 ≤ e.place) (h1 : e.place ≤ n) (k : e.kind = 5) : evOk e n = (yarnE e && inR e.count 1 4 && (if e.bed = 1 then decide (e.place + e.count ≤ n) else decide (e.count ≤ e.place))) ∧ evNext e n = n + 1 := by
  simp [evOk, evNext, h0, h1, k]
theorem evOk_6 {e : EventD} {n : Int} (k1 : ¬ e.kind = 1) (k2 : ¬ e.kind = 2) (k3 : ¬ e.kind = 3) (k4 : ¬ e.kind = 4) (k5 : ¬ e.kind = 5) : evOk e n = false := by
  simp [evOk, k1, k2, k3, k4, k5]
theorem evOk_lo {e : EventD} {n : Int} (h : e.place < 0) : evOk e n = false := by
  have : ¬ 0 ≤ e.place := by omega
  simp [evOk, this]
theorem evOk_hi {e : EventD} {n : Int} (h : n < e.place) : evOk e n = false := by
  have : ¬ e.place ≤ n := by omega
  simp [evOk, this]

theorem ret_vb {v : Int} {b c : Bool} (h : b = c) : (Ending.returned (.tuple #[.int .i64 v, .bool b]) : Ending) = .returned (.tuple #[.int .i64 v, .bool c]) := by rw [h]
theorem bool3 (a b c : Bool) : a = false ∨ (a = true ∧ b = false) ∨ (a = true ∧ b = true ∧ c = false) ∨ (a = true ∧ b = true ∧ c = true) := by cases a <;> cases b <;> cases c <;> simp
theorem int3 (a b c : Int) : ¬ a = 0 ∨ (a = 0 ∧ ¬ b = 0) ∨ (a = 0 ∧ b = 0 ∧ ¬ c = 0) ∨ (a = 0 ∧ b = 0 ∧ c = 0) := by omega
theorem bool2 (a b : Bool) : a = false ∨ (a = true ∧ b = false) ∨ (a = true ∧ b = true) := by cases a <;> cases b <;> simp

theorem spec_l01Bed (n : Int) (w : World) : Calls Try.prog 214 #[.int .i64 n] w fun e w' => e = .returned (.bool (bedB n)) ∧ w = w' := by
  go_enter Try.func214, Try.ntmps214
  go_wp2_with (refine (spec_l00In _ _ _ _).mono ?_; rintro e w' ⟨rfl, rfl⟩)
  go_ret
  exact ⟨rfl, rfl⟩

set_option maxHeartbeats 4000000 in
set_option maxRecDepth 10000 in
theorem spec_l10Event (g o : Nat) (e : EventD) (n : Int) (w : World) (hn : 0 ≤ n ∧ n ≤ 12) (c0 : w.cell? ⟨g, o, none⟩ = some (.int .i64 e.kind)) (c1 : w.cell? ⟨g, o + 1, none⟩ = some (.int .i64 e.place)) (c2 : w.cell? ⟨g, o + 2, none⟩ = some (.int .i64 e.count)) (c3 : w.cell? ⟨g, o + 3, none⟩ = some (.int .i64 e.bed)) (c4 : w.cell? ⟨g, o + 4, none⟩ = some (.int .i64 e.carrier)) (c5 : w.cell? ⟨g, o + 5, none⟩ = some (.int .i64 e.dir)) :
    Calls Try.prog 187 #[.pointer (some ⟨g, o, none⟩), .int .i64 n] w fun r w' => (∃ v, r = .returned (.tuple #[.int .i64 v, .bool (evOk e n)]) ∧ (evOk e n = true → v = evNext e n)) ∧ Drawn w w' := by
  obtain ⟨hn0, hn12⟩ := hn
  go_enter Try.func187, Try.ntmps187
  go_upto_region 1 with fail
  go_cut [6] (fun y wx => y = .bool (yarnE e) ∧ w = wx)
  case first =>
    rcases bool3 (bedB e.bed) (carrierB e.carrier) (dirB e.dir) with hb | ⟨hb, hc⟩ | ⟨hb, hc, hd⟩ | ⟨hb, hc, hd⟩
    all_goals
      go_wp2_with (first | (go_at_call 214; refine (spec_l01Bed _ _).mono ?_; rintro e _ ⟨rfl, rfl⟩) | (go_at_call 64; refine (spec_l07Yarn _ _).mono ?_; rintro e _ ⟨rfl, rfl⟩) | (go_at_call 215; refine (spec_l07Dir _ _).mono ?_; rintro e _ ⟨rfl, rfl⟩))
      go_meet
      refine ⟨?_, rfl⟩
      simp [yarnE, *]
  case rest =>
  obtain ⟨rfl, rfl⟩ := hcut
  go_upto_region 2 with fail
  go_cut [7] (fun y wx => y = .bool (plainE e) ∧ w = wx)
  case first =>
    rcases int3 e.bed e.carrier e.dir with hb | ⟨hb, hc⟩ | ⟨hb, hc, hd⟩ | ⟨hb, hc, hd⟩
    all_goals
      go_wp2_with (fail)
      go_meet
      refine ⟨?_, rfl⟩
      simp [plainE, *]
  case rest =>
  obtain ⟨rfl, rfl⟩ := hcut
  by_cases hp0 : e.place < 0
  · have HE := Lib.hid (evOk_lo (n := n) hp0)
    go_wp2_with (fail)
    go_ret2
    rw [HE.out]
    exact ⟨⟨_, rfl, fun h => by cases h⟩, Drawn.refl _⟩
  by_cases hp1 : n < e.place
  · have HE := Lib.hid (evOk_hi hp1)
    go_wp2_with (fail)
    go_ret2
    rw [HE.out]
    exact ⟨⟨_, rfl, fun h => by cases h⟩, Drawn.refl _⟩
  have q0 : 0 ≤ e.place := by omega
  have q1 : e.place ≤ n := by omega
  by_cases k1 : e.kind = 1
  · have HE := Lib.hid (evOk_1 q0 q1 k1)
    rcases (by cases plainE e <;> simp <;> omega : plainE e = false ∨ (plainE e = true ∧ e.count = 1) ∨ (plainE e = true ∧ ¬ e.count = 1 ∧ e.count = -1) ∨ (plainE e = true ∧ ¬ e.count = 1 ∧ ¬ e.count = -1)) with hy | ⟨hy, h1⟩ | ⟨hy, h1, h2⟩ | ⟨hy, h1, h2⟩
    all_goals
      go_wp2_with (fail)
      go_quiet (fail)
      go_wp2_with (fail)
      go_ret2
      rw [HE.out.1, HE.out.2]
      refine ⟨⟨_, by simp [*]; done, fun _ => rfl⟩, ?_⟩
      first | exact Drawn.refl _ | exact ⟨_, rfl⟩
  by_cases k2 : e.kind = 2
  · have HE := Lib.hid (evOk_2 q0 q1 k2)
    rcases bool2 (yarnE e) (inR e.count 0 4) with hy | ⟨hy, h1⟩ | ⟨hy, h1⟩
    · go_wp2_with (fail)
      go_quiet ((go_at_call 63; exact quietS (spec_l00In _ _ _ _)))
      go_wp2_with (fail)
      go_ret2
      rw [HE.out.1, HE.out.2]
      refine ⟨⟨_, ret_vb ?_, fun h => ?_⟩, ?_⟩
      · simp [hy]
      · simp [hy] at h
      · first | exact Drawn.refl _ | exact ⟨_, rfl⟩
    · go_wp2_with (fail)
      go_quiet ((go_at_call 63; exact quietS (spec_l00In _ _ _ _)))
      go_wp2_with (fail)
      go_ret2
      rw [HE.out.1, HE.out.2]
      refine ⟨⟨_, ret_vb ?_, fun h => ?_⟩, ?_⟩
      · simp [hy, h1]
      · simp [hy, h1] at h
      · first | exact Drawn.refl _ | exact ⟨_, rfl⟩
    · obtain ⟨h2, h3⟩ := inR_iff.1 h1
      have w1 : wrap64 (e.place + e.count) = e.place + e.count := IntWalk.wrap64_in _ ⟨by omega, by omega⟩
      have w2 : wrap64 (n - e.count) = n - e.count := IntWalk.wrap64_in _ ⟨by omega, by omega⟩
      have w3 : wrap64 (n - e.count + 1) = n - e.count + 1 := IntWalk.wrap64_in _ ⟨by omega, by omega⟩
      go_wp2_with (fail)
      go_quiet ((go_at_call 63; exact quietS (spec_l00In _ _ _ _)))
      go_wp2_with (fail)
      go_ret2
      rw [HE.out.1, HE.out.2]
      refine ⟨⟨_, ret_vb ?_, fun h => ?_⟩, ?_⟩
      · simp [hy, h1]
      · first | rfl | (simp [w2, w3]; done) | (rw [w2]; done) | omega
      · first | exact Drawn.refl _ | exact ⟨_, rfl⟩
  by_cases k3 : e.kind = 3
  · have HE := Lib.hid (evOk_3 q0 q1 k3)
    rcases (by cases yarnE e <;> simp <;> omega : yarnE e = false ∨ (yarnE e = true ∧ e.count = 0) ∨ (yarnE e = true ∧ ¬ e.count = 0)) with hy | ⟨hy, h1⟩ | ⟨hy, h1⟩
    · go_wp2_with (fail)
      go_quiet (fail)
      go_wp2_with (fail)
      go_ret2
      rw [HE.out.1, HE.out.2]
      refine ⟨⟨_, ret_vb ?_, fun h => ?_⟩, ?_⟩
      · simp [hy]
      · simp [hy] at h
      · first | exact Drawn.refl _ | exact ⟨_, rfl⟩
    · go_wp2_with (fail)
      go_quiet (fail)
      go_wp2_with (fail)
      go_ret2
      rw [HE.out.1, HE.out.2]
      refine ⟨⟨_, ret_vb ?_, fun h => ?_⟩, ?_⟩
      · simp [hy, h1]
      · rfl
      · first | exact Drawn.refl _ | exact ⟨_, rfl⟩
    · go_wp2_with (fail)
      go_quiet (fail)
      go_wp2_with (fail)
      go_ret2
      rw [HE.out.1, HE.out.2]
      refine ⟨⟨_, ret_vb ?_, fun h => ?_⟩, ?_⟩
      · simp [hy, h1]
      · simp [hy, h1] at h
      · first | exact Drawn.refl _ | exact ⟨_, rfl⟩
  by_cases k4 : e.kind = 4
  · have HE := Lib.hid (evOk_4 q0 q1 k4)
    rcases bool2 (plainE e) (inR e.count 1 4) with hy | ⟨hy, h1⟩ | ⟨hy, h1⟩
    · go_wp2_with (fail)
      go_quiet ((go_at_call 63; exact quietS (spec_l00In _ _ _ _)))
      go_wp2_with (fail)
      go_ret2
      rw [HE.out.1, HE.out.2]
      refine ⟨⟨_, ret_vb ?_, fun h => ?_⟩, ?_⟩
      · simp [hy]
      · simp [hy] at h
      · first | exact Drawn.refl _ | exact ⟨_, rfl⟩
    · go_wp2_with (fail)
      go_quiet ((go_at_call 63; exact quietS (spec_l00In _ _ _ _)))
      go_wp2_with (fail)
      go_ret2
      rw [HE.out.1, HE.out.2]
      refine ⟨⟨_, ret_vb ?_, fun h => ?_⟩, ?_⟩
      · simp [hy, h1]
      · simp [hy, h1] at h
      · first | exact Drawn.refl _ | exact ⟨_, rfl⟩
    · obtain ⟨h2, h3⟩ := inR_iff.1 h1
      have w1 : wrap64 (e.place + e.count) = e.place + e.count := IntWalk.wrap64_in _ ⟨by omega, by omega⟩
      have w2 : wrap64 (n - e.count) = n - e.count := IntWalk.wrap64_in _ ⟨by omega, by omega⟩
      have w3 : wrap64 (n - e.count + 1) = n - e.count + 1 := IntWalk.wrap64_in _ ⟨by omega, by omega⟩
      go_wp2_with (fail)
      go_quiet ((go_at_call 63; exact quietS (spec_l00In _ _ _ _)))
      go_wp2_with (fail)
      go_ret2
      rw [HE.out.1, HE.out.2]
      refine ⟨⟨_, ret_vb ?_, fun h => ?_⟩, ?_⟩
      · simp [hy, h1]
      · first | rfl | (simp [w2, w3]; done) | (rw [w2]; done) | omega
      · first | exact Drawn.refl _ | exact ⟨_, rfl⟩
  by_cases k5 : e.kind = 5
  · have HE := Lib.hid (evOk_5 q0 q1 k5)
    rcases bool2 (yarnE e) (inR e.count 1 4) with hy | ⟨hy, h1⟩ | ⟨hy, h1⟩
    · by_cases hbd : e.bed = 1
      · go_wp2_with (first | (go_at_call 63; refine (spec_l00In _ _ _ _).mono ?_; rintro e _ ⟨rfl, rfl⟩))
        go_quiet (fail)
        go_wp2_with (fail)
        go_ret2
        rw [HE.out.1, HE.out.2]
        refine ⟨⟨_, ret_vb ?_, fun h => ?_⟩, ?_⟩
        · simp [hy, hbd]
        · simp [hy] at h
        · first | exact Drawn.refl _ | exact ⟨_, rfl⟩
      · go_wp2_with (first | (go_at_call 63; refine (spec_l00In _ _ _ _).mono ?_; rintro e _ ⟨rfl, rfl⟩))
        go_quiet (fail)
        go_wp2_with (fail)
        go_ret2
        rw [HE.out.1, HE.out.2]
        refine ⟨⟨_, ret_vb ?_, fun h => ?_⟩, ?_⟩
        · simp [hy, hbd]
        · simp [hy] at h
        · first | exact Drawn.refl _ | exact ⟨_, rfl⟩
    · by_cases hbd : e.bed = 1
      · go_wp2_with (first | (go_at_call 63; refine (spec_l00In _ _ _ _).mono ?_; rintro e _ ⟨rfl, rfl⟩))
        go_quiet (fail)
        go_wp2_with (fail)
        go_ret2
        rw [HE.out.1, HE.out.2]
        refine ⟨⟨_, ret_vb ?_, fun h => ?_⟩, ?_⟩
        · simp [hy, h1, hbd]
        · simp [hy, h1] at h
        · first | exact Drawn.refl _ | exact ⟨_, rfl⟩
      · go_wp2_with (first | (go_at_call 63; refine (spec_l00In _ _ _ _).mono ?_; rintro e _ ⟨rfl, rfl⟩))
        go_quiet (fail)
        go_wp2_with (fail)
        go_ret2
        rw [HE.out.1, HE.out.2]
        refine ⟨⟨_, ret_vb ?_, fun h => ?_⟩, ?_⟩
        · simp [hy, h1, hbd]
        · simp [hy, h1] at h
        · first | exact Drawn.refl _ | exact ⟨_, rfl⟩
    · obtain ⟨h2, h3⟩ := inR_iff.1 h1
      have w1 : wrap64 (e.place + e.count) = e.place + e.count := IntWalk.wrap64_in _ ⟨by omega, by omega⟩
      by_cases hbd : e.bed = 1
      · go_wp2_with (first | (go_at_call 63; refine (spec_l00In _ _ _ _).mono ?_; rintro e _ ⟨rfl, rfl⟩))
        go_quiet (fail)
        go_wp2_with (fail)
        go_ret2
        rw [HE.out.1, HE.out.2]
        refine ⟨⟨_, ret_vb ?_, fun h => ?_⟩, ?_⟩
        · simp [hy, h1, hbd]
        · rfl
        · first | exact Drawn.refl _ | exact ⟨_, rfl⟩
      · go_wp2_with (first | (go_at_call 63; refine (spec_l00In _ _ _ _).mono ?_; rintro e _ ⟨rfl, rfl⟩))
        go_quiet (fail)
        go_wp2_with (fail)
        go_ret2
        rw [HE.out.1, HE.out.2]
        refine ⟨⟨_, ret_vb ?_, fun h => ?_⟩, ?_⟩
        · simp [hy, h1, hbd]
        · rfl
        · first | exact Drawn.refl _ | exact ⟨_, rfl⟩
  have HE := Lib.hid (evOk_6 (n := n) k1 k2 k3 k4 k5)
  go_wp2_with (fail)
  go_ret2
  rw [HE.out]
  exact ⟨⟨_, rfl, fun h => by cases h⟩, Drawn.refl _⟩

end Go.Proofs.Ytnilglkiojigjaa

/- Events: ValidEvents and EventCounts, the given side. -/
namespace Go.Proofs.Ytnilglkiojigjaa
open Go Go.RowKit

theorem zeros5 : (madeCells (Value.int .i64 0).cells (5 * 1)).toList = ([0, 0, 0, 0, 0] : List Int).map (Value.int .i64) := by simp [madeCells, Value.cells]; rfl
theorem strands_at {es : List EventD} {k : Nat} {p : EventD} {n : Int} (h : es[k]? = some p) : strands (es.drop k) n = if evOk p n && decide (evNext p n ≤ 12) then strands (es.drop (k + 1)) (evNext p n) else none := by rw [drop_cons h, strands]
theorem eventsB_none {es : List EventD} (h : strands es 0 = none) : eventsB es = false := by simp [eventsB, h]
theorem eventsB_some {es : List EventD} {n : Int} (h : strands es 0 = some n) : eventsB es = decide (es.length ≤ 2000) := by simp [eventsB, h]

set_option maxHeartbeats 2000000 in
theorem spec_l10Count (es : List EventD) (A : Option Addr) (c : Nat) (w : World) (h : Events w A es) (hl : es.length ≤ 9223372036854775807) :
    Calls Try.prog 133 #[.slice A es.length c] w fun e w' => (∃ v, e = .returned (.tuple #[.int .i64 v, .bool (eventsB es)])) ∧ Drawn w w' := by
  go_enter Try.func133, Try.ntmps133
  go_wp2_with (fail)
  go_loopw [4, 5] (fun nv iv wr => ∃ (k : Nat) (n : Int), k ≤ es.length ∧ iv = .int .i64 k ∧ nv = .int .i64 n ∧ (0 ≤ n ∧ n ≤ 12) ∧ Hid (strands es 0 = strands (es.drop k) n) ∧ Drawn w wr) (fun _ iv _ => es.length - (intOf iv).toNat)
  case atStart => exact ⟨0, 0, Nat.zero_le _, rfl, rfl, by omega, Lib.hid rfl, Drawn.refl _⟩
  case round =>
    obtain ⟨k, n, hk, rfl, rfl, hn, HS, hdr⟩ := hrel
    by_cases hlt : k < es.length
    · obtain ⟨b, off, p, rfl, hp, c0, c1, c2, c3, c4, c5⟩ := (h.of_cells hdr.cells) k hlt
      have HP := Lib.hid (strands_at (n := n) hp)
      have HG := Lib.hid (fun h => @evNext_ge p n h hn.1)
      clear hp
      have j1 : (0 : Int) ≤ (k : Int) := by omega
      have j2 : (k : Int) < (es.length : Int) := by omega
      go_wp2_with (fail)
      refine (spec_l10Event b (off + k * 6) p n _ hn c0 c1 c2 c3 c4 c5).mono ?_; rintro e w2 ⟨⟨v, rfl, hv⟩, hdr2⟩
      have hdr3 := hdr.trans hdr2
      have HV := Lib.hid hv
      clear c0 c1 c2 c3 c4 c5 hdr2 hv
      cases hok : evOk p n
      · have HB := Lib.hid (eventsB_none (by rw [HS.out, HP.out, hok]; rfl))
        go_wp2_with (fail)
        go_ret2
        rw [HB.out]
        exact ⟨⟨_, rfl⟩, hdr3⟩
      · obtain rfl := HV.out hok
        have h0 := HG.out hok
        by_cases h12 : evNext p n ≤ 12
        · have HS2 : Hid (strands es 0 = strands (es.drop (k + 1)) (evNext p n)) := Lib.hid (by rw [HS.out, HP.out, hok, decide_eq_true h12]; rfl)
          generalize evNext p n = m at HS2 h0 h12 ⊢
          go_wp2_with (fail)
          refine ⟨⟨k + 1, m, by omega, by go_num, rfl, by omega, HS2, hdr3⟩, by first | (simp [intOf]; done) | (simp [intOf]; omega)⟩
        · have HB := Lib.hid (eventsB_none (by rw [HS.out, HP.out, hok, decide_eq_false h12]; rfl))
          generalize evNext p n = m at h0 h12 ⊢
          go_wp2_with (fail)
          go_ret2
          rw [HB.out]
          exact ⟨⟨_, rfl⟩, hdr3⟩
    · obtain rfl : k = es.length := by omega
      have e0 := HS.out
      rw [drop_all (Nat.le_refl _), strands] at e0
      have HB := Lib.hid (eventsB_some e0)
      clear e0
      go_wp2_with (fail)
      go_ret2
      rw [HB.out]
      exact ⟨⟨_, ret_vb (by rw [decide_eq_decide]; omega)⟩, hdr⟩

theorem spec_ValidEvents (es : List EventD) (A : Option Addr) (c : Nat) (w : World) (h : Events w A es) (hl : es.length ≤ 9223372036854775807) :
    Calls Try.prog 73 #[.slice A es.length c] w fun e w' => e = .returned (.bool (eventsB es)) ∧ Drawn w w' := by
  go_enter Try.func73, Try.ntmps73
  go_wp2_with (fail)
  refine (spec_l10Count es A c _ h hl).mono ?_; rintro e w2 ⟨⟨v, rfl⟩, hdr⟩
  go_wp2_with (fail)
  go_ret
  exact ⟨rfl, hdr⟩

set_option maxHeartbeats 2000000 in
theorem spec_EventCounts (es : List EventD) (A : Option Addr) (c : Nat) (w : World) (h : Events w A es) (hl : es.length ≤ 9223372036854775807) :
    Calls Try.prog 20 #[.slice A es.length c] w fun e w' => ∃ A' c', e = .returned (.tuple #[.slice A' (eventCountsP es).length c', .int .i64 (eventCode es)]) ∧ OwnI w' w.heap.size w'.heap.size A' c' (eventCountsP es) ∧ Below w.heap.size w w' := by
  cases hv : eventsB es
  · have HF : Hid (eventCountsP es = [] ∧ eventCode es = 1) := Lib.hid (by simp [eventCountsP, eventCode, hv])
    go_enter Try.func20, Try.ntmps20
    go_wp2_with (fail)
    refine (spec_ValidEvents es A c _ h hl).mono ?_; rintro e w2 ⟨rfl, hdr⟩
    have b2 : Below w.heap.size w w2 := by obtain ⟨q, rfl⟩ := hdr; (repeat (first | exact Below.refl _ _ | assumption | apply Below.drew | apply below_drewN | (refine Below.alloc ?_ (by first | omega | (simp; done) | (simp; omega)) _) | (refine Below.setCell ?_ (by first | omega | (simp; done) | (simp; omega)) _)))
    rw [hv]
    go_wp2_with (fail)
    go_ret2
    rw [HF.out.1, HF.out.2]
    exact ⟨none, 0, rfl, OwnC.nil _ _ _ _ _, b2⟩
  · have HF : Hid (eventCountsP es = eventCounts es ∧ eventCode es = 0) := Lib.hid (by simp [eventCountsP, eventCode, hv])
    obtain ⟨h2000, hkinds⟩ := eventsB_kinds hv
    have HKD := Lib.hid hkinds; clear hkinds
    obtain ⟨i0, hi0, hz0, hz1, hz2⟩ := info_parts info_int64
    go_enter Try.func20, Try.ntmps20
    go_wp2_with (fail)
    refine (spec_ValidEvents es A c _ h hl).mono ?_; rintro e w2 ⟨rfl, hdr⟩
    have b2 : Below w.heap.size w w2 := by obtain ⟨q, rfl⟩ := hdr; (repeat (first | exact Below.refl _ _ | assumption | apply Below.drew | apply below_drewN | (refine Below.alloc ?_ (by first | omega | (simp; done) | (simp; omega)) _) | (refine Below.setCell ?_ (by first | omega | (simp; done) | (simp; omega)) _)))
    have hz2' := b2.size
    have h2 := h.below b2
    rw [hv]
    clear hv hdr
    go_wp2_with (refine wpList_make_full _ rfl _ _ _ rfl w2.heap.size 2 i0 _ 1 Try.underlying22 hi0 hz0 hz1 .i64 .i64 _ _ 5 rfl rfl rfl rfl (by rw [hz2]; omega) (by unfold maxLen; omega) (Nat.le_refl _) ?_; intro w3 hown hg)
    have hb3 : Below w2.heap.size w2 w3 := (Below.refl _ _).grown hg (Nat.le_refl _) (by simp)
    have o3 : OwnC w3 w2.heap.size w3.heap.size 2 1 (some ⟨w2.heap.size, 0, none⟩) 5 5 (([0, 0, 0, 0, 0] : List Int).map (Value.int .i64)) := by
      have := OwnC.of_own hown (Nat.le_refl _)
      rwa [zeros5] at this
    clear hown hg
    go_loopw [5] (fun i wr => ∃ (k : Nat), k ≤ es.length ∧ i = .int .i64 k ∧ OwnC wr w2.heap.size wr.heap.size 2 1 (some ⟨w2.heap.size, 0, none⟩) 5 5 ((eventCounts (es.take k)).map (Value.int .i64)) ∧ Below w2.heap.size w2 wr) (fun i _ => es.length - (intOf i).toNat)
    case atStart => exact ⟨0, Nat.zero_le _, rfl, o3, hb3⟩
    case round =>
      clear o3 hb3
      obtain ⟨k, hk, rfl, hq, hb⟩ := hrel
      by_cases hlt : k < es.length
      · obtain ⟨b, off, p, rfl, hp, c0, _⟩ := (h2.below hb) k hlt
        obtain ⟨hp1, hp5⟩ := HKD.out p (List.mem_of_getElem? hp)
        have HX := Lib.hid (eventCounts_snoc hp); clear hp
        have HC := Lib.hid (eventCounts_length (es.take k))
        obtain ⟨i, hi4, hki⟩ : ∃ i : Nat, i < 5 ∧ p.kind = (i : Int) + 1 := ⟨(p.kind - 1).toNat, by omega, by omega⟩
        rw [hki] at c0 HX
        generalize eventCounts (es.take k) = cs at hq HX HC
        have hvi : cs[i]? = some (cs[i]'(by rw [HC.out]; omega)) := List.getElem?_eq_getElem _
        generalize cs[i]'(by rw [HC.out]; omega) = v at hvi
        obtain ⟨_, hA, _, _, qc, fc⟩ := hq.cell (j := i) (by simp [HC.out]; omega)
        injection hA with hA
        injection hA with hA
        subst hA
        have e0 : (cs.map (Value.int .i64))[i]? = some (.int .i64 v) := by simp [hvi]
        rw [List.getElem?_eq_getElem (by simp [HC.out]; omega)] at e0
        injection e0 with e0
        rw [e0] at qc
        have HVI := Lib.hid (bump_at hvi); clear hvi e0 hki hp1 hp5
        have i1 : (i : Int) + 1 - 1 = (i : Int) := by omega
        have i2 : IntKind.i64.wrap ((i : Int) + 1 - 1) = (i : Int) := by rw [i1]; exact IntWalk.i64_in _ ⟨by omega, by omega⟩
        have i3 : (0 : Int) ≤ (i : Int) := by omega
        have i4 : (i : Int) < 5 := by omega
        have i5 : ((i : Int)).toNat = i := by omega
        have HQ := Lib.hid hq; clear hq
        have j1 : (0 : Int) ≤ (k : Int) := by omega
        have j2 : (k : Int) < (es.length : Int) := by omega
        clear h2 h
        set_option maxRecDepth 5000 in go_wp2_with (fail)
        refine ⟨⟨k + 1, by omega, by go_num, ?_, by (repeat (first | exact Below.refl _ _ | assumption | apply Below.drew | apply below_drewN | (refine Below.alloc ?_ (by first | omega | (simp; done) | (simp; omega)) _) | (refine Below.setCell ?_ (by first | omega | (simp; done) | (simp; omega)) _)))⟩, by first | (simp [intOf]; done) | (simp [intOf]; omega)⟩
        rw [HX.out, HVI.out, List.map_set]
        exact (HQ.out.store (j := i) (.int .i64 (wrap64 (v + 1)))).1.mono (Nat.le_refl _) (by simp)
      · obtain rfl : k = es.length := by omega
        rw [take_all (Nat.le_refl _)] at hq
        have e5 := eventCounts_length es
        have b4 : Below w.heap.size w2 wr := hb.mono hz2'
        go_wp2_with (fail)
        go_ret2
        rw [HF.out.1, HF.out.2]
        refine ⟨_, 5, by rw [e5]; rfl, ?_, b2.trans b4⟩
        show OwnC _ _ _ _ _ _ _ _ _
        rw [e5]
        exact hq.mono hz2' (Nat.le_refl _)

end Go.Proofs.Ytnilglkiojigjaa
