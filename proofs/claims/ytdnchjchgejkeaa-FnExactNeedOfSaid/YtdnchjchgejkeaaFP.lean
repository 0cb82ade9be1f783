/- Slices of Piece: how they are read and owned, and the helpers of the laws on them. -/
import Derived.Test.YtdnchjchgejkeaaR
namespace Go.Proofs.Ytdnchjchgejkeaa
open Go.RowKit

structure PieceD where
  kind : Int
  times : Int
  len : Int
instance : DecidableEq PieceD := fun a b => decidable_of_iff (a.kind = b.kind ∧ a.times = b.times ∧ a.len = b.len) ⟨fun h => by cases a; cases b; simp_all, fun h => by simp [h]⟩
def cellsPiece : List PieceD → List Value
  | [] => []
  | p :: ps => .int .i64 p.kind :: .int .i64 p.times :: .int .i64 p.len :: cellsPiece ps

theorem cellsPiece_length (ps : List PieceD) : (cellsPiece ps).length = ps.length * 3 := by
  induction ps with
  | nil => rfl
  | cons p ps ih => simp [cellsPiece, ih]; omega
theorem cellsPiece_snoc (ps : List PieceD) (p : PieceD) : cellsPiece (ps ++ [p]) = cellsPiece ps ++ [.int .i64 p.kind, .int .i64 p.times, .int .i64 p.len] := by
  induction ps with
  | nil => rfl
  | cons q ps ih => simp [cellsPiece, ih]
theorem cellsPiece_at {ps : List PieceD} {i : Nat} {p : PieceD} (h : ps[i]? = some p) : (cellsPiece ps)[i * 3]? = some (.int .i64 p.kind) ∧ (cellsPiece ps)[i * 3 + 1]? = some (.int .i64 p.times) ∧ (cellsPiece ps)[i * 3 + 2]? = some (.int .i64 p.len) := by
  induction ps generalizing i with
  | nil => simp at h
  | cons q ps ih =>
    cases i with
    | zero =>
      simp at h
      subst h
      simp [cellsPiece]
    | succ i =>
      have := ih (i := i) (by simpa using h)
      simp only [Nat.succ_mul, cellsPiece]
      simpa [Nat.add_right_comm] using this
def Pieces (w : World) (A : Option Addr) (ps : List PieceD) : Prop :=
  ∀ k, k < ps.length → ∃ b off p, A = some ⟨b, off, none⟩ ∧ ps[k]? = some p ∧ w.cell? ⟨b, off + k * 3, none⟩ = some (.int .i64 p.kind) ∧ w.cell? ⟨b, off + k * 3 + 1, none⟩ = some (.int .i64 p.times) ∧ w.cell? ⟨b, off + k * 3 + 2, none⟩ = some (.int .i64 p.len)
theorem Pieces.of_cells {w w' : World} {A : Option Addr} {ps : List PieceD} (h : Pieces w A ps) (hk : ∀ a v, w.cell? a = some v → w'.cell? a = some v) : Pieces w' A ps :=
  fun k hk' => by
    obtain ⟨b, off, p, hA, hp, h0, h1, h2⟩ := h k hk'
    exact ⟨b, off, p, hA, hp, hk _ _ h0, hk _ _ h1, hk _ _ h2⟩
theorem Pieces.below {w w' : World} {A : Option Addr} {ps : List PieceD} (h : Pieces w A ps) (hb : Below w.heap.size w w') : Pieces w' A ps := h.of_cells (cells_below hb)
theorem Pieces.drewN {w : World} {A : Option Addr} {ps : List PieceD} (h : Pieces w A ps) (n : Nat) : Pieces (w.drewN n) A ps := h
theorem Pieces.nil {w : World} {A : Option Addr} : Pieces w A [] := fun k hk => by simp at hk

/-- A slice of Piece that is the call's own. -/
abbrev OwnPiece (w : World) (lo hi : Nat) (A : Option Addr) (c : Nat) (ps : List PieceD) : Prop := OwnC w lo hi 102 3 A ps.length c (cellsPiece ps)
theorem OwnC.pieces {w : World} {lo hi n : Nat} {A : Option Addr} {c : Nat} {ps : List PieceD} (h : OwnC w lo hi 102 3 A n c (cellsPiece ps)) : Pieces w A ps := by
  intro k hk
  have hp : ps[k]? = some ps[k] := List.getElem?_eq_getElem hk
  obtain ⟨e0, e1, e2⟩ := cellsPiece_at hp
  have hl := cellsPiece_length ps
  have hk3 : k * 3 + 2 < ps.length * 3 := by omega
  obtain ⟨g0, hA0, _, _, c0, _⟩ := h.cell (j := k * 3) (by omega)
  rw [List.getElem?_eq_getElem (by omega)] at e0
  injection e0 with e0
  rw [e0] at c0
  subst hA0
  obtain ⟨g1, hA1, _, _, c1, _⟩ := h.cell (j := k * 3 + 1) (by omega)
  rw [List.getElem?_eq_getElem (by omega)] at e1
  injection e1 with e1
  rw [e1] at c1
  injection hA1 with hA1
  injection hA1 with hA1
  subst hA1
  obtain ⟨g2, hA2, _, _, c2, _⟩ := h.cell (j := k * 3 + 2) (by omega)
  rw [List.getElem?_eq_getElem (by omega)] at e2
  injection e2 with e2
  rw [e2] at c2
  injection hA2 with hA2
  injection hA2 with hA2
  subst hA2
  exact ⟨g0, 0, ps[k], rfl, hp, by simpa using c0, by simpa using c1, by simpa using c2⟩
theorem info_Piece : (Try.prog.info? 102).map (fun i => (i.zero, i.size, i.bytes)) = some (some (.agg #[.int .i64 0, .int .i64 0, .int .i64 0]), 3, 24) := by kernel_rfl

theorem laws_szPieceS (A : Option Addr) (n c : Nat) (l : Int) (w : World) (hl : n ≤ 9223372036854775807) (h0 : 0 ≤ l) (h1 : l ≤ 1048576) : Calls Try.prog 16 #[.slice A n c, .int .i64 l] w fun e w' => e = .returned (.int .i64 (szLeft l n)) ∧ w = w' := by
  by_cases h : l < n
  · go_enter Try.func16, Try.ntmps16
    go_wp2
    go_ret
    exact ⟨ret_int (by rw [szLeft, if_pos (by assumption)]), rfl⟩
  · go_enter Try.func16, Try.ntmps16
    go_wp2
    go_ret
    exact ⟨ret_int (by rw [szLeft, if_neg (by omega)]), rfl⟩

theorem laws_toPiece (x0 x1 x2 : Int) (w : World) : Calls Try.prog 78 #[.agg #[.int .i64 x0, .int .i64 x1, .int .i64 x2]] w fun e w' => e = .returned (.agg #[.int .i64 x0, .int .i64 x1, .int .i64 x2]) ∧ Below w.heap.size w w' := by
  go_enter Try.func78, Try.ntmps78
  go_wp2_with (fail)
  refine bodyPost_ret (v := .agg #[.int .i64 x0, .int .i64 x1, .int .i64 x2]) (by simp [results, Try.results78, go_sem]) rfl ⟨rfl, by (repeat (first | exact Below.refl _ _ | assumption | apply Below.drew | apply below_drewN | (refine Below.alloc ?_ (by first | omega | (simp; done) | (simp; omega)) _) | (refine Below.setCell ?_ (by first | omega | (simp; done) | (simp; omega)) _)))⟩

set_option maxHeartbeats 1000000 in
theorem laws_toPieceS (A : Option Addr) (c : Nat) (ps : List PieceD) (w : World) (h : Pieces w A ps) (hl : ps.length ≤ 1048576) :
    Calls Try.prog 18 #[.slice A ps.length c] w fun e w' => ∃ A' c', e = .returned (.slice A' ps.length c') ∧ OwnPiece w' w.heap.size w'.heap.size A' c' ps ∧ Below w.heap.size w w' := by
  obtain ⟨i0, hi0, hz0, hz1, hz2⟩ := info_parts info_Piece
  have hlen : ps.length ≤ 9223372036854775807 := by omega
  go_enter Try.func18, Try.ntmps18
  go_wp2_with (refine wpList_make_full _ rfl (.tmp 6) (.tmp 6) _ rfl w.heap.size 102 i0 _ 3 Try.underlying25 hi0 hz0 hz1 .i64 .i64 _ _ ps.length rfl rfl rfl rfl (by rw [hz2]; omega) (by unfold maxLen; omega) (Nat.le_refl _) ?_; intro w1 hown hg)
  have hb1 : Below w.heap.size w w1 := (Below.refl _ _).grown hg (Nat.le_refl _) (by simp)
  go_loopw [4] (fun i wr => ∃ (k : Nat) (cs : List Value), k ≤ ps.length ∧ i = .int .i64 k ∧ wr.ownsRow w.heap.size 102 3 (.slice (some ⟨w.heap.size, 0, none⟩) ps.length ps.length) ps.length cs ∧ cs.take (k * 3) = cellsPiece (ps.take k) ∧ Below w.heap.size w wr) (fun i _ => ps.length - (intOf i).toNat)
  case atStart => exact ⟨0, _, Nat.zero_le _, rfl, hown, by simp [cellsPiece], hb1⟩
  case round =>
    clear hown hg hb1
    obtain ⟨k, cs, hk, rfl, hown, htk, hb⟩ := hrel
    have hcl : cs.length = ps.length * 3 := hown.1
    have HT := Lib.hid htk; clear htk
    have HC := Lib.hid hcl; clear hcl
    by_cases hlt : k < ps.length
    · obtain ⟨b, off, p, rfl, hp, h0, h1, h2⟩ := h k hlt
      have HP := Lib.hid hp; clear hp
      replace h0 := cells_below hb _ _ h0
      replace h1 := cells_below hb _ _ h1
      replace h2 := cells_below hb _ _ h2
      have hgl : w.heap.size < wr.heap.size := (hown.lt _ rfl).2
      go_wp2_with (fail)
      refine (laws_toPiece _ _ _ _).mono ?_; rintro e w2 ⟨rfl, b2⟩
      have ho2 : OwnC w2 w.heap.size wr.heap.size 102 3 (some ⟨w.heap.size, 0, none⟩) ps.length ps.length cs := (OwnC.of_own hown (Nat.le_refl _)).below b2 (Nat.le_refl _)
      have hb2 := hb.trans (b2.mono hb.size)
      obtain ⟨_, hA0, _, _, q0, f0⟩ := ho2.cell (j := k * 3) (by rw [HC.out]; omega)
      injection hA0 with hA0
      injection hA0 with hA0
      subst hA0
      obtain ⟨_, hA1, _, _, q1, f1⟩ := ho2.cell (j := k * 3 + 1) (by rw [HC.out]; omega)
      injection hA1 with hA1
      injection hA1 with hA1
      subst hA1
      obtain ⟨_, hA2, _, _, q2, f2⟩ := ho2.cell (j := k * 3 + 2) (by rw [HC.out]; omega)
      injection hA2 with hA2
      injection hA2 with hA2
      subst hA2
      go_wp2_with (fail)
      go_roundw
      case rel =>
        refine ⟨k + 1, (((cs.set (k * 3) (.int .i64 p.kind)).set (k * 3 + 1) (.int .i64 p.times)).set (k * 3 + 2) (.int .i64 p.len)), by omega, by go_num, ?_, ?_, by (repeat (first | exact Below.refl _ _ | assumption | apply Below.drew | apply below_drewN | (refine Below.alloc ?_ (by first | omega | (simp; done) | (simp; omega)) _) | (refine Below.setCell ?_ (by first | omega | (simp; done) | (simp; omega)) _)))⟩
        · exact (((ho2.store _).1.store _).1.store _).1.own
        · rw [take_snoc HP.out, cellsPiece_snoc, ← HT.out]
          exact take_set3 cs (k * 3) _ (by rw [Nat.succ_mul]) (by rw [HC.out]; omega) _ _ _
      case measure => simp [intOf]; omega
    · go_wp2
      go_ret
      have : k = ps.length := by omega
      subst this
      have e : cs = cellsPiece ps := by
        have := HT.out
        rwa [take_all (by rw [HC.out]; exact Nat.le_refl _), take_all (Nat.le_refl _)] at this
      subst e
      exact ⟨_, _, rfl, OwnC.of_own hown (Nat.le_refl _), hb⟩

theorem laws_eqPiece (x0 x1 x2 y0 y1 y2 : Int) (w : World) : Calls Try.prog 80 #[.agg #[.int .i64 x0, .int .i64 x1, .int .i64 x2], .agg #[.int .i64 y0, .int .i64 y1, .int .i64 y2]] w fun e w' => e = .returned (.bool (decide ((⟨x0, x1, x2⟩ : PieceD) = ⟨y0, y1, y2⟩))) ∧ Below w.heap.size w w' := by
  by_cases e0 : x0 = y0
  · subst e0
    by_cases e1 : x1 = y1
    · subst e1
      by_cases e2 : x2 = y2
      · subst e2
        go_enter Try.func80, Try.ntmps80
        go_wp2_with (fail)
        go_ret
        exact ⟨ret_bool (by simp), by (repeat (first | exact Below.refl _ _ | assumption | apply Below.drew | apply below_drewN | (refine Below.alloc ?_ (by first | omega | (simp; done) | (simp; omega)) _) | (refine Below.setCell ?_ (by first | omega | (simp; done) | (simp; omega)) _)))⟩
      · have e' : (x2 != y2) = true := by simpa using e2
        go_enter Try.func80, Try.ntmps80
        go_wp2_with (fail)
        go_ret
        exact ⟨ret_bool (by simp [e2]), by (repeat (first | exact Below.refl _ _ | assumption | apply Below.drew | apply below_drewN | (refine Below.alloc ?_ (by first | omega | (simp; done) | (simp; omega)) _) | (refine Below.setCell ?_ (by first | omega | (simp; done) | (simp; omega)) _)))⟩
    · have e' : (x1 != y1) = true := by simpa using e1
      go_enter Try.func80, Try.ntmps80
      go_wp2_with (fail)
      go_ret
      exact ⟨ret_bool (by simp [e1]), by (repeat (first | exact Below.refl _ _ | assumption | apply Below.drew | apply below_drewN | (refine Below.alloc ?_ (by first | omega | (simp; done) | (simp; omega)) _) | (refine Below.setCell ?_ (by first | omega | (simp; done) | (simp; omega)) _)))⟩
  · have e' : (x0 != y0) = true := by simpa using e0
    go_enter Try.func80, Try.ntmps80
    go_wp2_with (fail)
    go_ret
    exact ⟨ret_bool (by simp [e0]), by (repeat (first | exact Below.refl _ _ | assumption | apply Below.drew | apply below_drewN | (refine Below.alloc ?_ (by first | omega | (simp; done) | (simp; omega)) _) | (refine Below.setCell ?_ (by first | omega | (simp; done) | (simp; omega)) _)))⟩

set_option maxHeartbeats 2000000 in
theorem laws_eqPieceS (A B : Option Addr) (c d : Nat) (ps qs : List PieceD) (w : World) (h : Pieces w A ps) (h' : Pieces w B qs) (hl : ps.length ≤ 1000000000000) (_hl' : qs.length ≤ 1000000000000) :
    Calls Try.prog 20 #[.slice A ps.length c, .slice B qs.length d] w fun e w' => e = .returned (.bool (decide (ps = qs))) ∧ Below w.heap.size w w' := by
  by_cases hle : ps.length = qs.length
  · have HL := Lib.hid hle
    have hle' : ((ps.length : Int) != (qs.length : Int)) = false := by simp [hle]
    clear hle
    go_enter Try.func20, Try.ntmps20
    go_wp2
    go_loopw [5] (fun i wr => ∃ (k : Nat), k ≤ ps.length ∧ i = .int .i64 k ∧ ps.take k = qs.take k ∧ Below w.heap.size w wr) (fun i _ => ps.length - (intOf i).toNat)
    case atStart => exact ⟨0, Nat.zero_le _, rfl, rfl, Below.refl _ _⟩
    case round =>
      obtain ⟨k, hk, rfl, htk, hb⟩ := hrel
      have HT := Lib.hid htk; clear htk
      by_cases hlt : k < ps.length
      · have hlt' : k < qs.length := by rw [← HL.out]; exact hlt
        obtain ⟨b, off, p, rfl, hp, h0, h1, h2⟩ := h k hlt
        obtain ⟨b', off', q, rfl, hq, h0', h1', h2'⟩ := h' k hlt'
        have HP := Lib.hid hp; clear hp
        have HQ := Lib.hid hq; clear hq
        replace h0 := cells_below hb _ _ h0
        replace h0' := cells_below hb _ _ h0'
        replace h1 := cells_below hb _ _ h1
        replace h1' := cells_below hb _ _ h1'
        replace h2 := cells_below hb _ _ h2
        replace h2' := cells_below hb _ _ h2'
        have j1 : (0 : Int) ≤ (k : Int) := by omega
        have j2 : (k : Int) < (ps.length : Int) := by omega
        have j3 : (k : Int) < (qs.length : Int) := by omega
        by_cases hpq : p = q
        · subst hpq
          go_wp2_with (fail)
          go_region_held3 (fun W' => (W'.cell? ⟨b, off + k * 3, none⟩ = some (.int .i64 p.kind) ∧ W'.cell? ⟨b, off + k * 3 + 1, none⟩ = some (.int .i64 p.times) ∧ W'.cell? ⟨b, off + k * 3 + 2, none⟩ = some (.int .i64 p.len)) ∧ (W'.cell? ⟨b', off' + k * 3, none⟩ = some (.int .i64 p.kind) ∧ W'.cell? ⟨b', off' + k * 3 + 1, none⟩ = some (.int .i64 p.times) ∧ W'.cell? ⟨b', off' + k * 3 + 2, none⟩ = some (.int .i64 p.len))) (first | exact ⟨⟨h0, h1, h2⟩, h0', h1', h2'⟩ | exact ⟨⟨cells_below b2 _ _ h0, cells_below b2 _ _ h1, cells_below b2 _ _ h2⟩, cells_below b2 _ _ h0', cells_below b2 _ _ h1', cells_below b2 _ _ h2'⟩)
            (first | (go_at_call 80; refine (laws_eqPiece _ _ _ _ _ _ _).mono ?_; rintro e w2 ⟨rfl, b2⟩; replace b2 := undrew b2))
          go_wp2_with (fail)
          go_roundw
          case rel => exact ⟨k + 1, by omega, by go_num, by rw [take_snoc HP.out, take_snoc HQ.out, HT.out], hb.trans (b2.mono hb.size)⟩
          case measure => simp [intOf]; omega
        · have hpq' : decide (p = q) = false := decide_eq_false hpq
          go_wp2_with (fail)
          go_region_held3 (fun W' => (W'.cell? ⟨b, off + k * 3, none⟩ = some (.int .i64 p.kind) ∧ W'.cell? ⟨b, off + k * 3 + 1, none⟩ = some (.int .i64 p.times) ∧ W'.cell? ⟨b, off + k * 3 + 2, none⟩ = some (.int .i64 p.len)) ∧ (W'.cell? ⟨b', off' + k * 3, none⟩ = some (.int .i64 q.kind) ∧ W'.cell? ⟨b', off' + k * 3 + 1, none⟩ = some (.int .i64 q.times) ∧ W'.cell? ⟨b', off' + k * 3 + 2, none⟩ = some (.int .i64 q.len))) (first | exact ⟨⟨h0, h1, h2⟩, h0', h1', h2'⟩ | exact ⟨⟨cells_below b2 _ _ h0, cells_below b2 _ _ h1, cells_below b2 _ _ h2⟩, cells_below b2 _ _ h0', cells_below b2 _ _ h1', cells_below b2 _ _ h2'⟩)
            (first | (go_at_call 80; refine (laws_eqPiece _ _ _ _ _ _ _).mono ?_; rintro e w2 ⟨rfl, b2⟩; replace b2 := undrew b2))
          go_wp2_with (fail)
          go_ret
          exact ⟨ret_bool (by simpa using ne_of_getElem? HP.out HQ.out hpq), hb.trans (b2.mono hb.size)⟩
      · go_wp2
        go_ret
        have : k = ps.length := by omega
        subst this
        have e := HT.out
        rw [take_all (Nat.le_refl _), take_all (by rw [HL.out]; exact Nat.le_refl _)] at e
        exact ⟨ret_bool (by simpa using e), hb⟩
  · have hle' : ((ps.length : Int) != (qs.length : Int)) = true := by simp; omega
    go_enter Try.func20, Try.ntmps20
    go_wp2
    go_ret
    exact ⟨ret_bool (by simp; intro e; exact hle (by rw [e])), Below.refl _ _⟩

def marksPiece (k : Int) (m : Nat) : List PieceD := (List.range m).map fun (i : Nat) => ⟨k + 3 * i, k + 3 * i + 1, k + 3 * i + 2⟩
theorem marksPiece_length (k : Int) (m : Nat) : (marksPiece k m).length = m := by simp [marksPiece]
theorem marksPiece_snoc (k : Int) (m : Nat) : marksPiece k (m + 1) = marksPiece k m ++ [⟨k + 3 * m, k + 3 * m + 1, k + 3 * m + 2⟩] := by simp [marksPiece, List.range_succ]
theorem marksPiece_at {k : Int} {m i : Nat} {p : PieceD} (h : (marksPiece k m)[i]? = some p) : p = ⟨k + 3 * i, k + 3 * i + 1, k + 3 * i + 2⟩ := by
  simp only [marksPiece, List.getElem?_map, Option.map_eq_some_iff] at h
  obtain ⟨j, hj, rfl⟩ := h
  obtain ⟨hl, he⟩ := List.getElem?_eq_some_iff.1 hj
  simp at he
  subst he
  rfl

set_option maxHeartbeats 1000000 in
theorem laws_markPieceS (A : Option Addr) (c : Nat) (ps : List PieceD) (k0 : Int) (lo hi : Nat) (w : World) (h : OwnPiece w lo hi A c ps) (hk0 : 0 ≤ k0) (hk1 : k0 + 3 * ps.length ≤ 1000000000000) :
    Calls Try.prog 71 #[.slice A ps.length c, .int .i64 k0] w fun e w' => e = .returned (.int .i64 (k0 + 3 * ps.length)) ∧ OwnC w' lo hi 102 3 A ps.length c (cellsPiece (marksPiece k0 ps.length)) ∧ Upd lo hi w w' := by
  have hlen : ps.length ≤ 9223372036854775807 := by omega
  go_enter Try.func71, Try.ntmps71
  go_wp2
  go_loopw [1, 5] (fun kv i wr => ∃ (k : Nat) (cs : List Value), k ≤ ps.length ∧ i = .int .i64 k ∧ kv = .int .i64 (k0 + 3 * k) ∧ OwnC wr lo hi 102 3 A ps.length c cs ∧ cs.take (k * 3) = cellsPiece (marksPiece k0 k) ∧ Upd lo hi w wr) (fun _ i _ => ps.length - (intOf i).toNat)
  case atStart => exact ⟨0, _, Nat.zero_le _, rfl, by simp, h, by simp [marksPiece, cellsPiece], Upd.refl _ _ _⟩
  case round =>
    clear h
    obtain ⟨k, cs, hk, rfl, rfl, ho, htk, hu⟩ := hrel
    have hcl : cs.length = ps.length * 3 := ho.len
    have HT := Lib.hid htk; clear htk
    have HC := Lib.hid hcl; clear hcl
    by_cases hlt : k < ps.length
    · obtain ⟨g, rfl, hg1, hg2, q0, f0⟩ := ho.cell (j := k * 3) (by rw [HC.out]; omega)
      obtain ⟨_, hA1, _, _, q1, f1⟩ := ho.cell (j := k * 3 + 1) (by rw [HC.out]; omega)
      injection hA1 with hA1
      injection hA1 with hA1
      subst hA1
      obtain ⟨_, hA2, _, _, q2, f2⟩ := ho.cell (j := k * 3 + 2) (by rw [HC.out]; omega)
      injection hA2 with hA2
      injection hA2 with hA2
      subst hA2
      go_wp2_with (fail)
      go_roundw
      case rel =>
        refine ⟨k + 1, (((cs.set (k * 3) (.int .i64 (k0 + 3 * k))).set (k * 3 + 1) (.int .i64 (k0 + 3 * k + 1))).set (k * 3 + 2) (.int .i64 (k0 + 3 * k + 1 + 1))), by omega, by go_num, by push_cast; go_num, (((ho.store _).1.store _).1.store _).1, ?_, by (repeat (first | exact Upd.refl _ _ _ | assumption | apply Upd.drewN | (refine Upd.setCell ?_ (by first | omega | (simp; done) | (simp; omega)) (by first | omega | (simp; done) | (simp; omega)) _)))⟩
        rw [marksPiece_snoc, cellsPiece_snoc, ← HT.out]
        rw [take_set3 cs (k * 3) _ (by rw [Nat.succ_mul]) (by rw [HC.out]; omega)]
        simp [Int.add_assoc]
      case measure => simp [intOf]; omega
    · go_wp2
      go_ret
      have : k = ps.length := by omega
      subst this
      have e : cs = cellsPiece (marksPiece k0 ps.length) := by
        have := HT.out
        rwa [take_all (by rw [HC.out]; exact Nat.le_refl _)] at this
      subst e
      exact ⟨rfl, ho, hu⟩


end Go.Proofs.Ytdnchjchgejkeaa
