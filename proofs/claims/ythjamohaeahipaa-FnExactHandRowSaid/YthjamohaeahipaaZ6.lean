/- Steps of the proof, joined from several texts: FE TI TL MD TJ TK. -/
import Derived.Test.YthjamohaeahipaaZ1
import Derived.Test.YthjamohaeahipaaZ5
import Derived.BigRegion
import Derived.Deep.RegionLaw

/- Slices of Event: how they are read and owned, and the helpers of the laws on them. -/
namespace Go.Proofs.Ythjamohaeahipaa
open Go.RowKit

structure EventD where
  kind : Int
  place : Int
  count : Int
  bed : Int
  carrier : Int
  dir : Int
instance : DecidableEq EventD := fun a b => decidable_of_iff (a.kind = b.kind ∧ a.place = b.place ∧ a.count = b.count ∧ a.bed = b.bed ∧ a.carrier = b.carrier ∧ a.dir = b.dir) ⟨fun h => by cases a; cases b; simp_all, fun h => by simp [h]⟩
def cellsEvent : List EventD → List Value
  | [] => []
  | p :: ps => .int .i64 p.kind :: .int .i64 p.place :: .int .i64 p.count :: .int .i64 p.bed :: .int .i64 p.carrier :: .int .i64 p.dir :: cellsEvent ps

theorem cellsEvent_length (ps : List EventD) : (cellsEvent ps).length = ps.length * 6 := by
  induction ps with
  | nil => rfl
  | cons p ps ih => simp [cellsEvent, ih]; omega
theorem cellsEvent_snoc (ps : List EventD) (p : EventD) : cellsEvent (ps ++ [p]) = cellsEvent ps ++ [.int .i64 p.kind, .int .i64 p.place, .int .i64 p.count, .int .i64 p.bed, .int .i64 p.carrier, .int .i64 p.dir] := by
  induction ps with
  | nil => rfl
  | cons q ps ih => simp [cellsEvent, ih]
theorem cellsEvent_at {ps : List EventD} {i : Nat} {p : EventD} (h : ps[i]? = some p) : (cellsEvent ps)[i * 6]? = some (.int .i64 p.kind) ∧ (cellsEvent ps)[i * 6 + 1]? = some (.int .i64 p.place) ∧ (cellsEvent ps)[i * 6 + 2]? = some (.int .i64 p.count) ∧ (cellsEvent ps)[i * 6 + 3]? = some (.int .i64 p.bed) ∧ (cellsEvent ps)[i * 6 + 4]? = some (.int .i64 p.carrier) ∧ (cellsEvent ps)[i * 6 + 5]? = some (.int .i64 p.dir) := by
  induction ps generalizing i with
  | nil => simp at h
  | cons q ps ih =>
    cases i with
    | zero =>
      simp at h
      subst h
      simp [cellsEvent]
    | succ i =>
      have := ih (i := i) (by simpa using h)
      simp only [Nat.succ_mul, cellsEvent]
      simpa [Nat.add_right_comm] using this
def Events (w : World) (A : Option Addr) (ps : List EventD) : Prop :=
  ∀ k, k < ps.length → ∃ b off p, A = some ⟨b, off, none⟩ ∧ ps[k]? = some p ∧ w.cell? ⟨b, off + k * 6, none⟩ = some (.int .i64 p.kind) ∧ w.cell? ⟨b, off + k * 6 + 1, none⟩ = some (.int .i64 p.place) ∧ w.cell? ⟨b, off + k * 6 + 2, none⟩ = some (.int .i64 p.count) ∧ w.cell? ⟨b, off + k * 6 + 3, none⟩ = some (.int .i64 p.bed) ∧ w.cell? ⟨b, off + k * 6 + 4, none⟩ = some (.int .i64 p.carrier) ∧ w.cell? ⟨b, off + k * 6 + 5, none⟩ = some (.int .i64 p.dir)
theorem Events.of_cells {w w' : World} {A : Option Addr} {ps : List EventD} (h : Events w A ps) (hk : ∀ a v, w.cell? a = some v → w'.cell? a = some v) : Events w' A ps :=
  fun k hk' => by
    obtain ⟨b, off, p, hA, hp, h0, h1, h2, h3, h4, h5⟩ := h k hk'
    exact ⟨b, off, p, hA, hp, hk _ _ h0, hk _ _ h1, hk _ _ h2, hk _ _ h3, hk _ _ h4, hk _ _ h5⟩
theorem Events.below {w w' : World} {A : Option Addr} {ps : List EventD} (h : Events w A ps) (hb : Below w.heap.size w w') : Events w' A ps := h.of_cells (cells_below hb)
theorem Events.drewN {w : World} {A : Option Addr} {ps : List EventD} (h : Events w A ps) (n : Nat) : Events (w.drewN n) A ps := h
theorem Events.nil {w : World} {A : Option Addr} : Events w A [] := fun k hk => by simp at hk

/-- A slice of Event that is the call's own. -/
abbrev OwnEvent (w : World) (lo hi : Nat) (A : Option Addr) (c : Nat) (ps : List EventD) : Prop := OwnC w lo hi 49 6 A ps.length c (cellsEvent ps)
theorem OwnC.events {w : World} {lo hi n : Nat} {A : Option Addr} {c : Nat} {ps : List EventD} (h : OwnC w lo hi 49 6 A n c (cellsEvent ps)) : Events w A ps := by
  intro k hk
  have hp : ps[k]? = some ps[k] := List.getElem?_eq_getElem hk
  obtain ⟨e0, e1, e2, e3, e4, e5⟩ := cellsEvent_at hp
  have hl := cellsEvent_length ps
  have hk3 : k * 6 + 5 < ps.length * 6 := by omega
  obtain ⟨g0, hA0, _, _, c0, _⟩ := h.cell (j := k * 6) (by omega)
  rw [List.getElem?_eq_getElem (by omega)] at e0
  injection e0 with e0
  rw [e0] at c0
  subst hA0
  obtain ⟨g1, hA1, _, _, c1, _⟩ := h.cell (j := k * 6 + 1) (by omega)
  rw [List.getElem?_eq_getElem (by omega)] at e1
  injection e1 with e1
  rw [e1] at c1
  injection hA1 with hA1
  injection hA1 with hA1
  subst hA1
  obtain ⟨g2, hA2, _, _, c2, _⟩ := h.cell (j := k * 6 + 2) (by omega)
  rw [List.getElem?_eq_getElem (by omega)] at e2
  injection e2 with e2
  rw [e2] at c2
  injection hA2 with hA2
  injection hA2 with hA2
  subst hA2
  obtain ⟨g3, hA3, _, _, c3, _⟩ := h.cell (j := k * 6 + 3) (by omega)
  rw [List.getElem?_eq_getElem (by omega)] at e3
  injection e3 with e3
  rw [e3] at c3
  injection hA3 with hA3
  injection hA3 with hA3
  subst hA3
  obtain ⟨g4, hA4, _, _, c4, _⟩ := h.cell (j := k * 6 + 4) (by omega)
  rw [List.getElem?_eq_getElem (by omega)] at e4
  injection e4 with e4
  rw [e4] at c4
  injection hA4 with hA4
  injection hA4 with hA4
  subst hA4
  obtain ⟨g5, hA5, _, _, c5, _⟩ := h.cell (j := k * 6 + 5) (by omega)
  rw [List.getElem?_eq_getElem (by omega)] at e5
  injection e5 with e5
  rw [e5] at c5
  injection hA5 with hA5
  injection hA5 with hA5
  subst hA5
  exact ⟨g0, 0, ps[k], rfl, hp, by simpa using c0, by simpa using c1, by simpa using c2, by simpa using c3, by simpa using c4, by simpa using c5⟩
theorem info_Event : (Try.prog.info? 49).map (fun i => (i.zero, i.size, i.bytes)) = some (some (.agg #[.int .i64 0, .int .i64 0, .int .i64 0, .int .i64 0, .int .i64 0, .int .i64 0]), 6, 48) := by kernel_rfl

theorem laws_eqEvent (x0 x1 x2 x3 x4 x5 y0 y1 y2 y3 y4 y5 : Int) (w : World) : Calls Try.prog 25 #[.agg #[.int .i64 x0, .int .i64 x1, .int .i64 x2, .int .i64 x3, .int .i64 x4, .int .i64 x5], .agg #[.int .i64 y0, .int .i64 y1, .int .i64 y2, .int .i64 y3, .int .i64 y4, .int .i64 y5]] w fun e w' => e = .returned (.bool (decide ((⟨x0, x1, x2, x3, x4, x5⟩ : EventD) = ⟨y0, y1, y2, y3, y4, y5⟩))) ∧ Below w.heap.size w w' := by
  by_cases e0 : x0 = y0
  · subst e0
    by_cases e1 : x1 = y1
    · subst e1
      by_cases e2 : x2 = y2
      · subst e2
        by_cases e3 : x3 = y3
        · subst e3
          by_cases e4 : x4 = y4
          · subst e4
            by_cases e5 : x5 = y5
            · subst e5
              go_enter Try.func25, Try.ntmps25
              go_wp2_with (fail)
              go_ret
              exact ⟨ret_bool (by simp), by (repeat (first | exact Below.refl _ _ | assumption | apply Below.drew | apply below_drewN | (refine Below.alloc ?_ (by first | omega | (simp; done) | (simp; omega)) _) | (refine Below.setCell ?_ (by first | omega | (simp; done) | (simp; omega)) _)))⟩
            · have e' : (x5 != y5) = true := by simpa using e5
              go_enter Try.func25, Try.ntmps25
              go_wp2_with (fail)
              go_ret
              exact ⟨ret_bool (by simp [e5]), by (repeat (first | exact Below.refl _ _ | assumption | apply Below.drew | apply below_drewN | (refine Below.alloc ?_ (by first | omega | (simp; done) | (simp; omega)) _) | (refine Below.setCell ?_ (by first | omega | (simp; done) | (simp; omega)) _)))⟩
          · have e' : (x4 != y4) = true := by simpa using e4
            go_enter Try.func25, Try.ntmps25
            go_wp2_with (fail)
            go_ret
            exact ⟨ret_bool (by simp [e4]), by (repeat (first | exact Below.refl _ _ | assumption | apply Below.drew | apply below_drewN | (refine Below.alloc ?_ (by first | omega | (simp; done) | (simp; omega)) _) | (refine Below.setCell ?_ (by first | omega | (simp; done) | (simp; omega)) _)))⟩
        · have e' : (x3 != y3) = true := by simpa using e3
          go_enter Try.func25, Try.ntmps25
          go_wp2_with (fail)
          go_ret
          exact ⟨ret_bool (by simp [e3]), by (repeat (first | exact Below.refl _ _ | assumption | apply Below.drew | apply below_drewN | (refine Below.alloc ?_ (by first | omega | (simp; done) | (simp; omega)) _) | (refine Below.setCell ?_ (by first | omega | (simp; done) | (simp; omega)) _)))⟩
      · have e' : (x2 != y2) = true := by simpa using e2
        go_enter Try.func25, Try.ntmps25
        go_wp2_with (fail)
        go_ret
        exact ⟨ret_bool (by simp [e2]), by (repeat (first | exact Below.refl _ _ | assumption | apply Below.drew | apply below_drewN | (refine Below.alloc ?_ (by first | omega | (simp; done) | (simp; omega)) _) | (refine Below.setCell ?_ (by first | omega | (simp; done) | (simp; omega)) _)))⟩
    · have e' : (x1 != y1) = true := by simpa using e1
      go_enter Try.func25, Try.ntmps25
      go_wp2_with (fail)
      go_ret
      exact ⟨ret_bool (by simp [e1]), by (repeat (first | exact Below.refl _ _ | assumption | apply Below.drew | apply below_drewN | (refine Below.alloc ?_ (by first | omega | (simp; done) | (simp; omega)) _) | (refine Below.setCell ?_ (by first | omega | (simp; done) | (simp; omega)) _)))⟩
  · have e' : (x0 != y0) = true := by simpa using e0
    go_enter Try.func25, Try.ntmps25
    go_wp2_with (fail)
    go_ret
    exact ⟨ret_bool (by simp [e0]), by (repeat (first | exact Below.refl _ _ | assumption | apply Below.drew | apply below_drewN | (refine Below.alloc ?_ (by first | omega | (simp; done) | (simp; omega)) _) | (refine Below.setCell ?_ (by first | omega | (simp; done) | (simp; omega)) _)))⟩

set_option maxHeartbeats 2000000 in
theorem laws_eqEventS (A B : Option Addr) (c d : Nat) (ps qs : List EventD) (w : World) (h : Events w A ps) (h' : Events w B qs) (hl : ps.length ≤ 1000000000000) (_hl' : qs.length ≤ 1000000000000) :
    Calls Try.prog 9 #[.slice A ps.length c, .slice B qs.length d] w fun e w' => e = .returned (.bool (decide (ps = qs))) ∧ Below w.heap.size w w' := by
  by_cases hle : ps.length = qs.length
  · have HL := Lib.hid hle
    have hle' : ((ps.length : Int) != (qs.length : Int)) = false := by simp [hle]
    clear hle
    go_enter Try.func9, Try.ntmps9
    go_wp2
    go_loopw [5] (fun i wr => ∃ (k : Nat), k ≤ ps.length ∧ i = .int .i64 k ∧ ps.take k = qs.take k ∧ Below w.heap.size w wr) (fun i _ => ps.length - (intOf i).toNat)
    case atStart => exact ⟨0, Nat.zero_le _, rfl, rfl, Below.refl _ _⟩
    case round =>
      obtain ⟨k, hk, rfl, htk, hb⟩ := hrel
      have HT := Lib.hid htk; clear htk
      by_cases hlt : k < ps.length
      · have hlt' : k < qs.length := by rw [← HL.out]; exact hlt
        obtain ⟨b, off, p, rfl, hp, h0, h1, h2, h3, h4, h5⟩ := h k hlt
        obtain ⟨b', off', q, rfl, hq, h0', h1', h2', h3', h4', h5'⟩ := h' k hlt'
        have HP := Lib.hid hp; clear hp
        have HQ := Lib.hid hq; clear hq
        replace h0 := cells_below hb _ _ h0
        replace h0' := cells_below hb _ _ h0'
        replace h1 := cells_below hb _ _ h1
        replace h1' := cells_below hb _ _ h1'
        replace h2 := cells_below hb _ _ h2
        replace h2' := cells_below hb _ _ h2'
        replace h3 := cells_below hb _ _ h3
        replace h3' := cells_below hb _ _ h3'
        replace h4 := cells_below hb _ _ h4
        replace h4' := cells_below hb _ _ h4'
        replace h5 := cells_below hb _ _ h5
        replace h5' := cells_below hb _ _ h5'
        have j1 : (0 : Int) ≤ (k : Int) := by omega
        have j2 : (k : Int) < (ps.length : Int) := by omega
        have j3 : (k : Int) < (qs.length : Int) := by omega
        by_cases hpq : p = q
        · subst hpq
          go_wp2_with (fail)
          go_region_held3 (fun W' => (W'.cell? ⟨b, off + k * 6, none⟩ = some (.int .i64 p.kind) ∧ W'.cell? ⟨b, off + k * 6 + 1, none⟩ = some (.int .i64 p.place) ∧ W'.cell? ⟨b, off + k * 6 + 2, none⟩ = some (.int .i64 p.count) ∧ W'.cell? ⟨b, off + k * 6 + 3, none⟩ = some (.int .i64 p.bed) ∧ W'.cell? ⟨b, off + k * 6 + 4, none⟩ = some (.int .i64 p.carrier) ∧ W'.cell? ⟨b, off + k * 6 + 5, none⟩ = some (.int .i64 p.dir)) ∧ (W'.cell? ⟨b', off' + k * 6, none⟩ = some (.int .i64 p.kind) ∧ W'.cell? ⟨b', off' + k * 6 + 1, none⟩ = some (.int .i64 p.place) ∧ W'.cell? ⟨b', off' + k * 6 + 2, none⟩ = some (.int .i64 p.count) ∧ W'.cell? ⟨b', off' + k * 6 + 3, none⟩ = some (.int .i64 p.bed) ∧ W'.cell? ⟨b', off' + k * 6 + 4, none⟩ = some (.int .i64 p.carrier) ∧ W'.cell? ⟨b', off' + k * 6 + 5, none⟩ = some (.int .i64 p.dir))) (first | exact ⟨⟨h0, h1, h2, h3, h4, h5⟩, h0', h1', h2', h3', h4', h5'⟩ | exact ⟨⟨cells_below b2 _ _ h0, cells_below b2 _ _ h1, cells_below b2 _ _ h2, cells_below b2 _ _ h3, cells_below b2 _ _ h4, cells_below b2 _ _ h5⟩, cells_below b2 _ _ h0', cells_below b2 _ _ h1', cells_below b2 _ _ h2', cells_below b2 _ _ h3', cells_below b2 _ _ h4', cells_below b2 _ _ h5'⟩)
            (first | (go_at_call 25; refine (laws_eqEvent _ _ _ _ _ _ _ _ _ _ _ _ _).mono ?_; rintro e w2 ⟨rfl, b2⟩; replace b2 := undrew b2))
          go_wp2_with (fail)
          go_roundw
          case rel => exact ⟨k + 1, by omega, by go_num, by rw [take_snoc HP.out, take_snoc HQ.out, HT.out], hb.trans (b2.mono hb.size)⟩
          case measure => simp [intOf]; omega
        · have hpq' : decide (p = q) = false := decide_eq_false hpq
          go_wp2_with (fail)
          go_region_held3 (fun W' => (W'.cell? ⟨b, off + k * 6, none⟩ = some (.int .i64 p.kind) ∧ W'.cell? ⟨b, off + k * 6 + 1, none⟩ = some (.int .i64 p.place) ∧ W'.cell? ⟨b, off + k * 6 + 2, none⟩ = some (.int .i64 p.count) ∧ W'.cell? ⟨b, off + k * 6 + 3, none⟩ = some (.int .i64 p.bed) ∧ W'.cell? ⟨b, off + k * 6 + 4, none⟩ = some (.int .i64 p.carrier) ∧ W'.cell? ⟨b, off + k * 6 + 5, none⟩ = some (.int .i64 p.dir)) ∧ (W'.cell? ⟨b', off' + k * 6, none⟩ = some (.int .i64 q.kind) ∧ W'.cell? ⟨b', off' + k * 6 + 1, none⟩ = some (.int .i64 q.place) ∧ W'.cell? ⟨b', off' + k * 6 + 2, none⟩ = some (.int .i64 q.count) ∧ W'.cell? ⟨b', off' + k * 6 + 3, none⟩ = some (.int .i64 q.bed) ∧ W'.cell? ⟨b', off' + k * 6 + 4, none⟩ = some (.int .i64 q.carrier) ∧ W'.cell? ⟨b', off' + k * 6 + 5, none⟩ = some (.int .i64 q.dir))) (first | exact ⟨⟨h0, h1, h2, h3, h4, h5⟩, h0', h1', h2', h3', h4', h5'⟩ | exact ⟨⟨cells_below b2 _ _ h0, cells_below b2 _ _ h1, cells_below b2 _ _ h2, cells_below b2 _ _ h3, cells_below b2 _ _ h4, cells_below b2 _ _ h5⟩, cells_below b2 _ _ h0', cells_below b2 _ _ h1', cells_below b2 _ _ h2', cells_below b2 _ _ h3', cells_below b2 _ _ h4', cells_below b2 _ _ h5'⟩)
            (first | (go_at_call 25; refine (laws_eqEvent _ _ _ _ _ _ _ _ _ _ _ _ _).mono ?_; rintro e w2 ⟨rfl, b2⟩; replace b2 := undrew b2))
          go_wp2_with (fail)
          go_ret
          exact ⟨ret_bool (by simpa using ne_of_getElem? HP.out HQ.out hpq), hb.trans (b2.mono hb.size)⟩
      · go_wp2
        go_ret
        have : k = ps.length := by omega
        subst this
        have e := HT.out
        rw [take_all (Nat.le_refl _), take_all (by rw [HL.out]; exact Nat.le_refl _)] at e
        exact ⟨ret_bool (by simpa using e), hb⟩
  · have hle' : ((ps.length : Int) != (qs.length : Int)) = true := by simp; omega
    go_enter Try.func9, Try.ntmps9
    go_wp2
    go_ret
    exact ⟨ret_bool (by simp; intro e; exact hle (by rw [e])), Below.refl _ _⟩

def marksEvent (k : Int) (m : Nat) : List EventD := (List.range m).map fun (i : Nat) => ⟨k + 6 * i, k + 6 * i + 1, k + 6 * i + 2, k + 6 * i + 3, k + 6 * i + 4, k + 6 * i + 5⟩
theorem marksEvent_length (k : Int) (m : Nat) : (marksEvent k m).length = m := by simp [marksEvent]
theorem marksEvent_snoc (k : Int) (m : Nat) : marksEvent k (m + 1) = marksEvent k m ++ [⟨k + 6 * m, k + 6 * m + 1, k + 6 * m + 2, k + 6 * m + 3, k + 6 * m + 4, k + 6 * m + 5⟩] := by simp [marksEvent, List.range_succ]
theorem marksEvent_at {k : Int} {m i : Nat} {p : EventD} (h : (marksEvent k m)[i]? = some p) : p = ⟨k + 6 * i, k + 6 * i + 1, k + 6 * i + 2, k + 6 * i + 3, k + 6 * i + 4, k + 6 * i + 5⟩ := by
  simp only [marksEvent, List.getElem?_map, Option.map_eq_some_iff] at h
  obtain ⟨j, hj, rfl⟩ := h
  obtain ⟨hl, he⟩ := List.getElem?_eq_some_iff.1 hj
  simp at he
  subst he
  rfl

set_option maxHeartbeats 1000000 in
theorem laws_markEventS (A : Option Addr) (c : Nat) (ps : List EventD) (k0 : Int) (lo hi : Nat) (w : World) (h : OwnEvent w lo hi A c ps) (hk0 : 0 ≤ k0) (hk1 : k0 + 6 * ps.length ≤ 1000000000000) :
    Calls Try.prog 14 #[.slice A ps.length c, .int .i64 k0] w fun e w' => e = .returned (.int .i64 (k0 + 6 * ps.length)) ∧ OwnC w' lo hi 49 6 A ps.length c (cellsEvent (marksEvent k0 ps.length)) ∧ Upd lo hi w w' := by
  have hlen : ps.length ≤ 9223372036854775807 := by omega
  go_enter Try.func14, Try.ntmps14
  go_wp2
  go_loopw [1, 5] (fun kv i wr => ∃ (k : Nat) (cs : List Value), k ≤ ps.length ∧ i = .int .i64 k ∧ kv = .int .i64 (k0 + 6 * k) ∧ OwnC wr lo hi 49 6 A ps.length c cs ∧ cs.take (k * 6) = cellsEvent (marksEvent k0 k) ∧ Upd lo hi w wr) (fun _ i _ => ps.length - (intOf i).toNat)
  case atStart => exact ⟨0, _, Nat.zero_le _, rfl, by simp, h, by simp [marksEvent, cellsEvent], Upd.refl _ _ _⟩
  case round =>
    clear h
    obtain ⟨k, cs, hk, rfl, rfl, ho, htk, hu⟩ := hrel
    have hcl : cs.length = ps.length * 6 := ho.len
    have HT := Lib.hid htk; clear htk
    have HC := Lib.hid hcl; clear hcl
    by_cases hlt : k < ps.length
    · obtain ⟨g, rfl, hg1, hg2, q0, f0⟩ := ho.cell (j := k * 6) (by rw [HC.out]; omega)
      obtain ⟨_, hA1, _, _, q1, f1⟩ := ho.cell (j := k * 6 + 1) (by rw [HC.out]; omega)
      injection hA1 with hA1
      injection hA1 with hA1
      subst hA1
      obtain ⟨_, hA2, _, _, q2, f2⟩ := ho.cell (j := k * 6 + 2) (by rw [HC.out]; omega)
      injection hA2 with hA2
      injection hA2 with hA2
      subst hA2
      obtain ⟨_, hA3, _, _, q3, f3⟩ := ho.cell (j := k * 6 + 3) (by rw [HC.out]; omega)
      injection hA3 with hA3
      injection hA3 with hA3
      subst hA3
      obtain ⟨_, hA4, _, _, q4, f4⟩ := ho.cell (j := k * 6 + 4) (by rw [HC.out]; omega)
      injection hA4 with hA4
      injection hA4 with hA4
      subst hA4
      obtain ⟨_, hA5, _, _, q5, f5⟩ := ho.cell (j := k * 6 + 5) (by rw [HC.out]; omega)
      injection hA5 with hA5
      injection hA5 with hA5
      subst hA5
      go_wp2_with (fail)
      go_roundw
      case rel =>
        refine ⟨k + 1, ((((((cs.set (k * 6) (.int .i64 (k0 + 6 * k))).set (k * 6 + 1) (.int .i64 (k0 + 6 * k + 1))).set (k * 6 + 2) (.int .i64 (k0 + 6 * k + 1 + 1))).set (k * 6 + 3) (.int .i64 (k0 + 6 * k + 1 + 1 + 1))).set (k * 6 + 4) (.int .i64 (k0 + 6 * k + 1 + 1 + 1 + 1))).set (k * 6 + 5) (.int .i64 (k0 + 6 * k + 1 + 1 + 1 + 1 + 1))), by omega, by go_num, by push_cast; go_num, ((((((ho.store _).1.store _).1.store _).1.store _).1.store _).1.store _).1, ?_, Upd.setCell (Upd.setCell (Upd.setCell (Upd.setCell (Upd.setCell (Upd.setCell (hu) hg1 hg2 _) hg1 hg2 _) hg1 hg2 _) hg1 hg2 _) hg1 hg2 _) hg1 hg2 _⟩
        rw [marksEvent_snoc, cellsEvent_snoc, ← HT.out]
        rw [take_set6 cs (k * 6) _ (by rw [Nat.succ_mul]) (by rw [HC.out]; omega)]
        simp [Int.add_assoc]
      case measure => simp [intOf]; omega
    · go_wp2
      go_ret
      have : k = ps.length := by omega
      subst this
      have e : cs = cellsEvent (marksEvent k0 ps.length) := by
        have := HT.out
        rwa [take_all (by rw [HC.out]; exact Nat.le_refl _)] at this
      subst e
      exact ⟨rfl, ho, hu⟩

set_option maxHeartbeats 1000000 in
theorem laws_heldEventS (A : Option Addr) (c m : Nat) (k0 : Int) (w : World) (h : Events w A (marksEvent k0 m)) (hk0 : 0 ≤ k0) (hk1 : k0 + 6 * m ≤ 1000000000000) :
    Calls Try.prog 15 #[.slice A m c, .int .i64 k0] w fun e w' => e = .returned (.int .i64 (k0 + 6 * m)) ∧ w = w' := by
  go_enter Try.func15, Try.ntmps15
  go_wp2
  go_loop [1, 5] (fun kv i => ∃ (k : Nat), k ≤ m ∧ i = .int .i64 k ∧ kv = .int .i64 (k0 + 6 * k)) (fun _ i => m - (intOf i).toNat)
  case atStart => exact ⟨0, Nat.zero_le _, rfl, by simp⟩
  case round =>
    obtain ⟨k, hk, rfl, rfl⟩ := hrel
    by_cases hlt : k < m
    · obtain ⟨b, off, p, rfl, hp, h0, h1, h2, h3, h4, h5⟩ := h k (by rw [marksEvent_length]; exact hlt)
      obtain rfl := marksEvent_at hp
      clear hp
      go_wp2_with (fail)
      go_round
      case rel => exact ⟨k + 1, by omega, by go_num, by push_cast; go_num⟩
      case measure => simp [intOf]; omega
    · go_wp2
      go_ret
      have : k = m := by omega
      subst this
      exact ⟨rfl, rfl⟩

end Go.Proofs.Ythjamohaeahipaa

/- l15Thin: the given side's limit on strands. -/
namespace Go.Proofs.Ythjamohaeahipaa
open Go.RowKit

theorem afterP_len {ks st : List Int} (hs : ∀ k ∈ ks, isStitchB k = true) : (afterP ks st).length = madeS ks := by
  induction ks generalizing st with
  | nil => rfl
  | cons q ks ih => rw [afterP, madeS, List.length_append, stepMade_madeN (hs q (by simp)), ih fun x hx => hs x (by simp [hx])]
theorem madeS_at {ks : List Int} {i : Nat} {k : Int} (h : ks[i]? = some k) : madeS (ks.take i) + madeN k ≤ madeS ks := by
  rw [← madeS_snoc h]
  have := madeS_append (ks.take (i + 1)) (ks.drop (i + 1))
  rw [List.take_append_drop] at this
  omega
theorem drop_getElem {xs : List Int} {f q : Nat} {x : Int} (h : xs[f + q]? = some x) : (xs.drop f)[q]? = some x := by rw [List.getElem?_drop]; exact h


end Go.Proofs.Ythjamohaeahipaa

/- l15Stacks: the stacks of a chart, the given side. -/
namespace Go.Proofs.Ythjamohaeahipaa
open Go.RowKit

/-- The list of stacks grows by one. -/
theorem stacks_step {w5 w6 : World} {lo m k : Nat} {A5 A3 : Option Addr} {c5 c3 : Nat} {cs : List Value} {done : List (List Int)} {nx : List Int}
    (ho : OwnC w5 lo m 22 1 A5 k c5 cs) (hc : CellsII w5 lo m cs done) (hx : OwnI w5 m w5.heap.size A3 c3 nx) (hlo : lo ≤ m) (hm : m ≤ w5.heap.size)
    (hg : (w5.alloc (.cells #[.slice A3 nx.length c3] 22)).grownBy w6 (Value.slice A5 k c5).ownBlock) (hz : w5.heap.size < w6.heap.size) :
    OwnI w6 lo w6.heap.size A3 c3 nx ∧ CellsII w6 lo w6.heap.size (cs ++ [.slice A3 nx.length c3]) (done ++ [nx]) := by
  have t3 : (2 : TypeId) ≠ 22 := by decide
  have ho' := ho.alloc (.cells #[.slice A3 nx.length c3] 22)
  have hc' : CellsII (w5.alloc (.cells #[.slice A3 nx.length c3] 22)) lo m cs done := hc.keep fun q _ _ h3 => Below.heap_alloc w5 _ q h3
  have hx6 := (hx.alloc (.cells #[.slice A3 nx.length c3] 22)).grownT ho' t3 hg
  have hc6 := hc'.grownT ho' t3 hg
  exact ⟨hx6.mono hlo (by omega), (hc6.snoc hx6 hlo (by omega)).mono (Nat.le_refl _) (by omega)⟩
def sliceLen : Value → Nat
  | .slice _ n _ => n
  | _ => 0
theorem stacksFrom_drop {st : List Int} {rs : List RowD} {k : Nat} {r : RowD} (h : rs[k]? = some r) : stacksFrom st (rs.drop k) = (stacksAfterP st r.s).1 :: stacksFrom (stacksAfterP st r.s).1 (rs.drop (k + 1)) := by rw [drop_cons h, stacksFrom]
theorem rowsOkB_drop {st : List Int} {rs : List RowD} {k : Nat} {r : RowD} (h : rs[k]? = some r) : rowsOkB st (rs.drop k) = (rowOkB st r && rowsOkB (stacksAfterP st r.s).1 (rs.drop (k + 1))) := by rw [drop_cons h, rowsOkB]
theorem chart_bad {n : Int} {rs : List RowD} (h : chartB n rs = false) : chartStacks n rs = [] ∧ chartB n rs = false := ⟨by rw [chartStacks, if_neg (by rw [h]; decide)], h⟩


end Go.Proofs.Ythjamohaeahipaa

/- slices.Clone, copyLists, slices.Reverse. -/
namespace Go.Proofs.Ythjamohaeahipaa
open Go.RowKit

theorem Ints.news {w : World} {A : Option Addr} {xs : List Int} (h : Ints w A xs) : ∀ j u, (xs.map (Value.int .i64))[j]? = some u → ∃ b off, A = some ⟨b, off, none⟩ ∧ w.cell? ⟨b, off + j, none⟩ = some u := by
  intro j u hu
  have hj := (List.getElem?_eq_some_iff.1 hu).1
  simp at hj
  obtain ⟨b, off, x, hA, hc, hx⟩ := h j hj
  rw [List.getElem?_map, hx] at hu
  simp at hu
  subst hu
  exact ⟨b, off, hA, hc⟩

set_option maxRecDepth 10000 in
theorem slices_Clone (A : Option Addr) (c : Nat) (xs : List Int) (w : World) (h : Ints w A xs) (hl : xs.length ≤ 1048576) :
    Calls Try.prog 66 #[.slice A xs.length c] w fun e w' => ∃ A' c', e = .returned (.slice A' xs.length c') ∧ OwnI w' w.heap.size w'.heap.size A' c' xs ∧ Below w.heap.size w w' := by
  obtain ⟨i0, hi0, hz0, hz1, hz2⟩ := info_parts info_int64
  have qn : ∀ (w : World) (a : Option Addr) (n c n' c' : Nat), (binOp .eql 22 (.slice a n c) (.slice none n' c')).run Try.prog w = .ok (.bool a.isNone) w := fun w a n c n' c' => Lib.run_eql_slice_nil w _ _ a n c n' c' Try.underlying22
  cases A with
  | none =>
    have hx : xs = [] := by
      cases xs with
      | nil => rfl
      | cons x r => obtain ⟨b, off, _, h1, _⟩ := h 0 (by simp); cases h1
    subst hx
    go_enter Try.func66, Try.ntmps66
    go_wp2_with (fail)
    go_ret
    exact ⟨none, 0, rfl, OwnC.nil _ _ _ _ _, Below.refl _ _⟩
  | some a =>
    have o1 := OwnC.lit (w := w) (lo := w.heap.size) (n := 0) 2 1 #[] (Nat.le_refl _) (Nat.zero_le _) rfl
    have hb1 : Below w.heap.size w (w.alloc (.cells #[] 2)) := by (repeat (first | exact Below.refl _ _ | assumption | apply Below.drew | apply below_drewN | (refine Below.alloc ?_ (by first | omega | (simp; done) | (simp; omega)) _) | (refine Below.setCell ?_ (by first | omega | (simp; done) | (simp; omega)) _)))
    have hn := (h.below hb1).news
    have O1 := Lib.hid o1; clear o1
    have HN := Lib.hid hn; clear hn
    go_enter Try.func66, Try.ntmps66
    go_wp2_with (at_builtin; refine wpList_appendC (w.alloc (.cells #[] 2)) rfl (.tmp 5) (.tmp 6) _ rfl 2 i0 _ 1 8 Try.underlying22 hi0 hz0 hz1 hz2 rfl (by decide) rfl O1.out (by simp) (some a) xs.length c (xs.map (Value.int .i64)) rfl (by simp) HN.out (ints_one _) (by unfold maxLen; omega) (by omega) ?_; intro A5 c5 w5 ho5 hg5 hb5)
    go_ret
    refine ⟨A5, c5, by simp, ?_, hb1.trans hb5⟩
    simpa using ho5

set_option maxHeartbeats 1000000 in
theorem slices_Reverse (A : Option Addr) (c : Nat) (xs : List Int) (lo hi : Nat) (w : World) (h : OwnI w lo hi A c xs) (hl : xs.length ≤ 1048576) :
    Calls Try.prog 69 #[.slice A xs.length c] w fun e w' => e = .returned (.tuple #[]) ∧ OwnC w' lo hi 2 1 A xs.length c (xs.reverse.map (Value.int .i64)) ∧ Upd lo hi w w' := by
  go_enter Try.func69, Try.ntmps69
  go_wp2_with (fail)
  go_loopw [2, 3] (fun iv jv wr => ∃ (i : Nat) (L : List Int), 2 * i ≤ xs.length ∧ iv = .int .i64 i ∧ jv = .int .i64 ((xs.length : Int) - 1 - i) ∧ OwnC wr lo hi 2 1 A xs.length c (L.map (Value.int .i64)) ∧ Hid (L.length = xs.length) ∧ Hid (∀ k, k < xs.length → L[k]? = if k < i ∨ xs.length ≤ k + i then xs[xs.length - 1 - k]? else xs[k]?) ∧ Upd lo hi w wr) (fun _ jv _ => (intOf jv + 1).toNat)
  case atStart => exact ⟨0, xs, by omega, rfl, by simp, h, Lib.hid rfl, Lib.hid (fun k hk => by rw [if_neg (by omega)]), Upd.refl _ _ _⟩
  case round =>
    obtain ⟨i, L, hi2, rfl, rfl, ho, HL, HK, hu⟩ := hrel
    by_cases hlt : 2 * i + 1 < xs.length
    · obtain ⟨j, hj⟩ : ∃ j, xs.length = j + 1 + i := ⟨xs.length - 1 - i, by omega⟩
      have hij : i < j := by omega
      rw [show (xs.length : Int) - 1 - i = j by omega]
      have e1 : L[i]? = some (L[i]'(by rw [HL.out]; omega)) := List.getElem?_eq_getElem _
      have e2 : L[j]? = some (L[j]'(by rw [HL.out]; omega)) := List.getElem?_eq_getElem _
      generalize L[i]'(by rw [HL.out]; omega) = x at e1
      generalize L[j]'(by rw [HL.out]; omega) = y at e2
      obtain ⟨g, rfl, hg1, hg2, q0, f0⟩ := ho.cell (j := i) (by simp [HL.out]; omega)
      obtain ⟨_, hA, _, _, q1, f1⟩ := ho.cell (j := j) (by simp [HL.out]; omega)
      injection hA with hA
      injection hA with hA
      subst hA
      have e3 : (L.map (Value.int .i64))[i]? = some (.int .i64 x) := by simp [e1]
      have e4 : (L.map (Value.int .i64))[j]? = some (.int .i64 y) := by simp [e2]
      rw [List.getElem?_eq_getElem (by simp [HL.out]; omega)] at e3 e4
      injection e3 with e3
      injection e4 with e4
      rw [e3] at q0
      rw [e4] at q1
      have E1 := Lib.hid e1; clear e1
      have E2 := Lib.hid e2; clear e2 e3 e4
      have j1 : (0 : Int) ≤ (i : Int) := by omega
      have j2 : (i : Int) < (xs.length : Int) := by omega
      have j3 : (0 : Int) ≤ (j : Int) := by omega
      have j4 : (j : Int) < (xs.length : Int) := by omega
      have HJ := Lib.hid hj; clear hj
      have hne : i ≠ j := by omega
      have hne2 : j ≠ i := by omega
      have HO := Lib.hid ho; clear ho
      go_wp2_with (fail)
      go_region
      all_goals go_wp2_with (fail)
      all_goals
        have o1 := (HO.out.store (j := i) (.int .i64 y)).1
        have o2 := (o1.store (j := j) (.int .i64 x)).1
        have o3 := OwnC.keep (w' := World.drew ((wr.setCell ⟨g, i, none⟩ (.int .i64 y)).setCell ⟨g, j, none⟩ (.int .i64 x))) o2 fun _ _ _ _ => rfl
        have u2 : Upd lo hi w (World.drew ((wr.setCell ⟨g, i, none⟩ (.int .i64 y)).setCell ⟨g, j, none⟩ (.int .i64 x))) := ((hu.setCell (p := ⟨g, i, none⟩) hg1 hg2 _).setCell (p := ⟨g, j, none⟩) hg1 hg2 _).drewN 1
        refine ⟨⟨i + 1, (L.set i y).set j x, by omega, by go_num, int_eq (by have := HJ.out; push_cast; omega), by simpa [List.map_set] using o3, Lib.hid (by simp [HL.out]), Lib.hid (fun k hk => ?_), u2⟩, by first | (simp [intOf]; done) | (simp [intOf]; omega)⟩
        have hjj := HJ.out
        by_cases hki : k = i
        · subst hki
          rw [List.getElem?_set_ne (by omega), List.getElem?_set_self (by rw [HL.out]; omega), if_pos (by omega), show xs.length - 1 - k = j by omega]
          have := HK.out j (by omega)
          rw [E2.out, if_neg (by omega)] at this
          exact this
        · by_cases hkj : k = j
          · subst hkj
            rw [List.getElem?_set_self (by simp [HL.out]; omega), if_pos (by omega), show xs.length - 1 - k = i by omega]
            have := HK.out i (by omega)
            rw [E1.out, if_neg (by omega)] at this
            exact this
          · rw [List.getElem?_set_ne (by omega), List.getElem?_set_ne (by omega), HK.out k hk]
            by_cases hc : k < i ∨ xs.length ≤ k + i
            · rw [if_pos hc, if_pos (by omega)]
            · rw [if_neg hc, if_neg (by omega)]
    · have hjle : (xs.length : Int) - 1 - i ≤ i := by omega
      go_wp2_with (fail)
      go_end0
      refine ⟨rfl, ?_, hu⟩
      have e : L = xs.reverse := by
        apply List.ext_getElem?
        intro k
        by_cases hk : k < xs.length
        · rw [HK.out k hk, List.getElem?_reverse hk]
          by_cases hc : k < i ∨ xs.length ≤ k + i
          · rw [if_pos hc]
          · rw [if_neg hc, show xs.length - 1 - k = k by omega]
        · rw [List.getElem?_eq_none (by rw [HL.out]; omega), List.getElem?_eq_none (by rw [List.length_reverse]; omega)]
      rw [← e]
      exact ho

end Go.Proofs.Ythjamohaeahipaa

/- keepsLimit: the program's limit on strands. -/
namespace Go.Proofs.Ythjamohaeahipaa
open Go.RowKit

def iotaI (n : Nat) : List Int := (List.range n).map fun (i : Nat) => (i : Int)
theorem iotaI_length (n : Nat) : (iotaI n).length = n := by simp [iotaI]
theorem iotaI_at {n k : Nat} (h : k < n) : (iotaI n)[k]? = some (k : Int) := by simp [iotaI, h]

theorem sumOf_tiny (A : Option Addr) (c : Nat) (xs : List Int) (w : World) (h : Ints w A xs) (hl : xs.length ≤ 100) (ht : tinyB xs) :
    Calls Try.prog 42 #[.slice A xs.length c] w fun e w' => e = .returned (.int .i64 (sumI xs)) ∧ w = w' := by
  have HT := Lib.hid ht; clear ht
  go_enter Try.func42, Try.ntmps42
  go_wp2_with (fail)
  go_loopw [3, 8] (fun sv iv wr => ∃ (k : Nat) (s : Int), k ≤ xs.length ∧ sv = .int .i64 s ∧ iv = .int .i64 k ∧ Hid (s = sumI (xs.take k)) ∧ 0 ≤ s ∧ s ≤ 5 * (k : Int) ∧ w = wr) (fun _ iv _ => xs.length - (intOf iv).toNat)
  case atStart => exact ⟨0, 0, Nat.zero_le _, rfl, rfl, Lib.hid rfl, by omega, by omega, rfl⟩
  case round =>
    obtain ⟨k, s, hk8, rfl, rfl, HS, hs0, hs1, rfl⟩ := hrel
    by_cases hlt : k < xs.length
    · obtain ⟨b, off, x, rfl, hc, hx⟩ := h k hlt
      have hx4 := HT.out x (List.mem_of_getElem? hx)
      have HS2 : Hid (s + x = sumI (xs.take (k + 1))) := Lib.hid (by rw [sumI_snoc hx, HS.out])
      clear hx
      have j1 : (0 : Int) ≤ (k : Int) := by omega
      have j2 : (k : Int) < (xs.length : Int) := by omega
      go_wp2_with (fail)
      go_roundw
      case rel => exact ⟨k + 1, s + x, by omega, by go_num, by go_num, HS2, by omega, by omega, trivial⟩
      case measure => simp [intOf]; omega
    · have hs9 : s = sumI xs := by rw [HS.out, take_all (by omega)]
      have HS9 := Lib.hid hs9; clear hs9
      go_wp2_with (fail)
      go_ret
      exact ⟨ret_int HS9.out, rfl⟩

theorem impl_identity (n : Nat) (w : World) (hl : n ≤ 1000) :
    Calls Try.prog 68 #[.int .i64 n] w fun e w' => ∃ A' c', e = .returned (.slice A' (iotaI n).length c') ∧ OwnI w' w.heap.size w'.heap.size A' c' (iotaI n) ∧ Below w.heap.size w w' := by
  obtain ⟨i0, hi0, hz0, hz1, hz2⟩ := info_parts info_int64
  have hlen : n ≤ 9223372036854775807 := by omega
  go_enter Try.func68, Try.ntmps68
  go_wp2_with (refine wpList_make_full _ rfl _ _ _ rfl w.heap.size 2 i0 _ 1 Try.underlying22 hi0 hz0 hz1 .i64 .i64 _ _ n rfl rfl rfl rfl (by rw [hz2]; omega) (by unfold maxLen; omega) (Nat.le_refl _) ?_; intro w1 hown hg)
  have hb1 : Below w.heap.size w w1 := (Below.refl _ _).grown hg (Nat.le_refl _) (by simp)
  go_loopw [9] (fun i wr => ∃ (k : Nat) (cs : List Value), k ≤ n ∧ i = .int .i64 k ∧ wr.ownsRow w.heap.size 2 1 (.slice (some ⟨w.heap.size, 0, none⟩) n n) n cs ∧ cs.take k = ((iotaI n).take k).map (Value.int .i64) ∧ Below w.heap.size w wr) (fun i _ => n - (intOf i).toNat)
  case atStart => exact ⟨0, _, Nat.zero_le _, rfl, hown, by simp, hb1⟩
  case round =>
    clear hown hg hb1
    obtain ⟨k, cs, hk, rfl, hown, htk, hb⟩ := hrel
    have hcl : cs.length = n := by simpa using hown.1
    have HT := Lib.hid htk; clear htk
    have HC := Lib.hid hcl; clear hcl
    by_cases hlt : k < n
    · have hx := iotaI_at hlt
      have hcell : wr.cell? ⟨w.heap.size, k, none⟩ = some (cs[k]'(by rw [HC.out]; exact hlt)) := by
        rw [hown.cellAt k (by omega), List.getElem?_eq_getElem]
      have hfz := hown.frozenAt k
      have HX := Lib.hid hx; clear hx
      go_wp2
      go_roundw
      case rel =>
        refine ⟨k + 1, cs.set k (.int .i64 k), by omega, by go_num, (hown.stored k _).1, ?_, hb.setCell (p := ⟨w.heap.size, k, none⟩) (Nat.le_refl _) _⟩
        rw [take_set_succ _ _ _ (by rw [HC.out]; exact hlt), HT.out, take_snoc HX.out]
        simp
      case measure => simp [intOf]; omega
    · go_wp2
      go_ret
      have : k = n := by omega
      subst this
      have e : cs = (iotaI k).map (Value.int .i64) := by
        have := HT.out
        rwa [take_all (by rw [HC.out]; exact Nat.le_refl _), take_all (by rw [iotaI_length]; exact Nat.le_refl _)] at this
      subst e
      refine ⟨some ⟨w.heap.size, 0, none⟩, k, by rw [iotaI_length]; rfl, ?_, hb⟩
      show OwnC _ _ _ _ _ _ _ _ _
      rw [iotaI_length]
      exact OwnC.of_own hown (Nat.le_refl _)

theorem impl_order (d r : Int) (ks : List Int) (A : Option Addr) (c : Nat) (w : World) (hl : ks.length ≤ 1000) :
    Calls Try.prog 46 #[.agg #[.int .i64 d, .int .i64 r, .slice A ks.length c]] w fun e w' => ∃ A' c', e = .returned (.slice A' (ordL d (iotaI ks.length)).length c') ∧ OwnI w' w.heap.size w'.heap.size A' c' (ordL d (iotaI ks.length)) ∧ Below w.heap.size w w' := by
  have hb1 : Below w.heap.size w (w.alloc (.cells #[.int .i64 d, .int .i64 r, .slice A ks.length c] 29)) := by (repeat (first | exact Below.refl _ _ | assumption | apply Below.drew | apply below_drewN | (refine Below.alloc ?_ (by first | omega | (simp; done) | (simp; omega)) _) | (refine Below.setCell ?_ (by first | omega | (simp; done) | (simp; omega)) _)))
  have kb := Blk.new w 29 #[.int .i64 d, .int .i64 r, .slice A ks.length c]
  obtain ⟨u0, u1, u2⟩ := kb.c3
  go_enter Try.func46, Try.ntmps46
  go_wp2_with (fail)
  refine (impl_identity ks.length _ hl).mono ?_; rintro e w2 ⟨A2, c2, rfl, o2, b2⟩
  simp only [World.size_alloc] at b2 o2
  obtain ⟨v0, v1, v2⟩ := (kb.below b2 (by omega)).c3
  have hb2 : Below w.heap.size w w2 := hb1.trans (b2.mono (by omega))
  clear u0 u1 u2
  have z2 := b2.size
  simp only [World.size_alloc] at z2
  by_cases hd : d = -1
  · subst hd
    have HF : Hid (ordL (-1) (iotaI ks.length) = (iotaI ks.length).reverse) := Lib.hid rfl
    go_wp2_with (fail)
    refine (slices_Reverse A2 c2 (iotaI ks.length) _ _ _ o2 (by rw [iotaI_length]; omega)).mono ?_; rintro e w3 ⟨rfl, o3, u3⟩
    go_wp2_with (fail)
    go_ret
    rw [HF.out]
    refine ⟨A2, c2, by rw [List.length_reverse]; rfl, ?_, hb2.trans ((u3.below (by omega)).mono (by omega))⟩
    show OwnC _ _ _ _ _ _ _ _ _
    rw [List.length_reverse]
    exact o3.mono (by omega) u3.size
  · have hd' : (d == -1) = false := by simp [hd]
    have HF : Hid (ordL d (iotaI ks.length) = iotaI ks.length) := Lib.hid (by rw [ordL, if_neg hd])
    go_wp2_with (fail)
    go_ret
    rw [HF.out]
    exact ⟨A2, c2, rfl, o2.mono (by omega) (Nat.le_refl _), hb2⟩

end Go.Proofs.Ythjamohaeahipaa

/- keepsLimit. -/
namespace Go.Proofs.Ythjamohaeahipaa
open Go.RowKit

theorem ordL_map (d : Int) (cs : List Int) {k : Nat} (h : k < cs.length) : ∃ j : Nat, j < cs.length ∧ (ordL d (iotaI cs.length))[k]? = some (j : Int) ∧ (ordL d cs)[k]? = cs[j]? := by
  by_cases hd : d = -1
  · subst hd
    refine ⟨cs.length - 1 - k, by omega, ?_, ordL_rev h⟩
    rw [ordL_rev (by rw [iotaI_length]; exact h), iotaI_length]
    exact iotaI_at (by omega)
  · refine ⟨k, h, ?_, ?_⟩
    · unfold ordL; rw [if_neg hd]; exact iotaI_at h
    · unfold ordL; rw [if_neg hd]


end Go.Proofs.Ythjamohaeahipaa
