/- Steps of the proof, joined from several texts: VB. -/
import Derived.Test.YtcgbogofmdjddaaDoorZ12
import Derived.Test.YtcgbogofmdjddaaDoorZ13
import Derived.Test.YtcgbogofmdjddaaDoorZ8
import Derived.Deep.QuietTactic
import Derived.BigQuiet
import Derived.Deep.LoopGhost
import Derived.Deep.RegionHeld3

/- Reading pieces, the given side: the reader's rows. -/
namespace Go.Proofs.YtcgbogofmdjddaaDoor
open Go Go.RowKit

theorem rdS_stop {m d : Nat} {l : List UInt8} {ps : List PieceD} {bad : Bool} (h : l = [] ∨ bad = true) : rdS m d l ps bad = (l, ps, bad) := by
  cases m with
  | zero => rfl
  | succ m =>
    cases bad with
    | true => rfl
    | false =>
      rcases h with rfl | h
      · rfl
      · cases h
theorem Blk.c4 {w : World} {g : Nat} {t : TypeId} {a0 a1 a2 a3 : Value} (h : Blk w g t #[a0, a1, a2, a3]) : w.cell? ⟨g, 0, none⟩ = some a0 ∧ w.cell? ⟨g, 1, none⟩ = some a1 ∧ w.cell? ⟨g, 2, none⟩ = some a2 ∧ w.cell? ⟨g, 3, none⟩ = some a3 := ⟨h.cell 0, h.cell 1, h.cell 2, h.cell 3⟩
theorem Blk.setR {w : World} {g : Nat} {t : TypeId} {cs : Array Value} (h : Blk w g t cs) (j : Nat) (u : Value) : Blk (w.setCell ⟨g, j, none⟩ u) g t (cs.setIfInBounds j u) := by
  unfold Blk at h ⊢
  simp [World.setCell, Array.getElem?_modify, h]
set_option maxHeartbeats 2000000 in
set_option maxRecDepth 10000 in
theorem Blk.grownO {w w' w0 : World} {g : Nat} {t : TypeId} {bs : Array Value} (h : Blk w g t bs) {lo hi : Nat} {e : TypeId} {sz : Nat} {A : Option Addr} {n c : Nat} {cs : List Value} (ho : OwnC w0 lo hi e sz A n c cs) (hg : w.grownBy w' (Value.slice A n c).ownBlock) (hi : hi ≤ g) : Blk w' g t bs := by
  refine (hg.block g h.lt (fun e => ?_)).trans h
  cases A with
  | none => cases e
  | some a =>
    have := ho.lt a rfl
    injection e with e
    omega
theorem Blk.set41 {w : World} {g : Nat} {t : TypeId} {a0 a1 a2 a3 : Value} (h : Blk w g t #[a0, a1, a2, a3]) (u : Value) : Blk (w.setCell ⟨g, 1, none⟩ u) g t #[a0, u, a2, a3] := h.setR 1 u
theorem Blk.set42 {w : World} {g : Nat} {t : TypeId} {a0 a1 a2 a3 : Value} (h : Blk w g t #[a0, a1, a2, a3]) (u : Value) : Blk (w.setCell ⟨g, 2, none⟩ u) g t #[a0, a1, u, a3] := h.setR 2 u
theorem Blk.set43 {w : World} {g : Nat} {t : TypeId} {a0 a1 a2 a3 : Value} (h : Blk w g t #[a0, a1, a2, a3]) (u : Value) : Blk (w.setCell ⟨g, 3, none⟩ u) g t #[a0, a1, a2, u] := h.setR 3 u

/-- The reader at block g: where it stands, its pieces, whether it failed. -/
structure Rd (s : ByteArray) (lo g : Nat) (w : World) (a : Nat) (ps : List PieceD) (bad : Bool) : Prop where
  ex : ∃ A c, Blk w g 71 #[.string s, .int .i64 (a : Int), .slice A ps.length c, .bool bad] ∧ OwnC w lo w.heap.size 45 3 A ps.length c (cellsPiece ps)
  hlo : lo ≤ g
  ha : a ≤ s.size
  hn : ps.length ≤ a
theorem Rd.at1 {s : ByteArray} {lo g : Nat} {w : World} {a : Nat} {ps : List PieceD} {bad : Bool} (h : Rd s lo g w a ps bad) {a' : Nat} (h1 : a' ≤ s.size) (h2 : ps.length ≤ a') {z : Int} (hz : z = (a' : Int)) : Rd s lo g (w.setCell ⟨g, 1, none⟩ (.int .i64 z)) a' ps bad := by
  obtain ⟨⟨A, c, hk, ho⟩, hlo, _, _⟩ := h
  subst hz
  exact ⟨⟨A, c, hk.set41 _, (ho.farT hk (by decide) 1 _).mono (Nat.le_refl _) (by simp)⟩, hlo, h1, h2⟩
theorem Rd.bad3 {s : ByteArray} {lo g : Nat} {w : World} {a : Nat} {ps : List PieceD} {bad : Bool} (h : Rd s lo g w a ps bad) (b : Bool) : Rd s lo g (w.setCell ⟨g, 3, none⟩ (.bool b)) a ps b := by
  obtain ⟨⟨A, c, hk, ho⟩, hlo, h1, h2⟩ := h
  exact ⟨⟨A, c, hk.set43 _, (ho.farT hk (by decide) 3 _).mono (Nat.le_refl _) (by simp)⟩, hlo, h1, h2⟩
theorem Rd.drewN {s : ByteArray} {lo g : Nat} {w : World} {a : Nat} {ps : List PieceD} {bad : Bool} (h : Rd s lo g w a ps bad) (n : Nat) : Rd s lo g (w.drewN n) a ps bad := by
  obtain ⟨⟨A, c, hk, ho⟩, hlo, h1, h2⟩ := h
  exact ⟨⟨A, c, hk.drewN n, (ho.drewN n).mono (Nat.le_refl _) (by simp)⟩, hlo, h1, h2⟩
theorem Rd.below {s : ByteArray} {lo g : Nat} {w w' : World} {a : Nat} {ps : List PieceD} {bad : Bool} (h : Rd s lo g w a ps bad) (hb : Below w.heap.size w w') : Rd s lo g w' a ps bad := by
  obtain ⟨⟨A, c, hk, ho⟩, hlo, h1, h2⟩ := h
  exact ⟨⟨A, c, hk.below hb hk.lt, (ho.below hb (Nat.le_refl _)).mono (Nat.le_refl _) hb.size⟩, hlo, h1, h2⟩
theorem Rd.drew1 {s : ByteArray} {lo g : Nat} {w : World} {a : Nat} {ps : List PieceD} {bad : Bool} (h : Rd s lo g w a ps bad) : Rd s lo g w.drew a ps bad := by
  obtain ⟨⟨A, c, hk, ho⟩, hlo, h1, h2⟩ := h
  exact ⟨⟨A, c, hk, OwnC.drew1 ho⟩, hlo, h1, h2⟩
/-- The group at k gets its times and its length. -/
theorem Rd.close {s : ByteArray} {lo g : Nat} {w : World} {a : Nat} {ps : List PieceD} {bad : Bool} (h : Rd s lo g w a ps bad) {A : Option Addr} {c : Nat} (hk : Blk w g 71 #[.string s, .int .i64 (a : Int), .slice A ps.length c, .bool bad]) (ho : OwnC w lo w.heap.size 45 3 A ps.length c (cellsPiece ps)) {k : Nat} (hkl : k < ps.length) (t : Int) :
    ∃ gA, A = some ⟨gA, 0, none⟩ ∧ lo ≤ gA ∧ gA ≠ g ∧ (∃ v, w.cell? ⟨gA, k * 3 + 1, none⟩ = some v) ∧ (∃ v, w.cell? ⟨gA, k * 3 + 2, none⟩ = some v) ∧ w.frozen? ⟨gA, k * 3 + 1, none⟩ = false ∧ w.frozen? ⟨gA, k * 3 + 2, none⟩ = false ∧
      Rd s lo g ((w.setCell ⟨gA, k * 3 + 1, none⟩ (.int .i64 t)).setCell ⟨gA, k * 3 + 2, none⟩ (.int .i64 ((ps.length : Int) - 1 - (k : Int)))) a (closeP ps k t) bad := by
  have hcl := cellsPiece_length ps
  obtain ⟨gA, rfl, l1, _, q1, f1⟩ := ho.cell (j := k * 3 + 1) (by omega)
  obtain ⟨_, hA, _, _, q2, f2⟩ := ho.cell (j := k * 3 + 2) (by omega)
  injection hA with hA
  injection hA with hA
  subst hA
  have hne : gA ≠ g := by
    rcases ho.form with ⟨h', _⟩ | ⟨_, cu, h', _, _, h3, _⟩
    · cases h'
    · injection h' with h'; injection h' with h'
      subst h'
      intro e
      subst e
      unfold Blk at hk
      rw [h3] at hk
      injection hk with hk
      injection hk with _ h5
      exact absurd h5 (by decide)
  obtain ⟨p, hp⟩ : ∃ p, ps[k]? = some p := ⟨_, List.getElem?_eq_getElem hkl⟩
  have hcell : ((cellsPiece ps).set (k * 3 + 1) (.int .i64 t)).set (k * 3 + 2) (.int .i64 ((ps.length : Int) - 1 - (k : Int))) = cellsPiece (closeP ps k t) := by
    rw [← closeP_cells hp, List.set_comm _ _ (by omega)]
  have hcp := closeP_length ps k t
  refine ⟨gA, rfl, l1, hne, ⟨_, q1⟩, ⟨_, q2⟩, f1, f2, ⟨some ⟨gA, 0, none⟩, c, ?_, ?_⟩, h.hlo, h.ha, by rw [hcp]; exact h.hn⟩
  · rw [hcp]
    exact (hk.far (p := ⟨gA, k * 3 + 1, none⟩) (Ne.symm hne) _).far (p := ⟨gA, k * 3 + 2, none⟩) (Ne.symm hne) _
  · rw [hcp, ← hcell]
    exact ((ho.store (j := k * 3 + 1) (.int .i64 t)).1.store (j := k * 3 + 2) (.int .i64 ((ps.length : Int) - 1 - (k : Int)))).1.mono (Nat.le_refl _) (by simp)
def RowEnd (s : ByteArray) (n d a : Nat) (ps : List PieceD) (lo g : Nat) (w : World) (e : Ending) (w' : World) : Prop :=
  e = .returned (.tuple #[]) ∧ ∃ a' ps' bad', a ≤ a' ∧ ps.length ≤ ps'.length ∧ rdS n d (s.data.toList.drop a) ps false = (s.data.toList.drop a', ps', bad') ∧ Rd s lo g w' a' ps' bad' ∧ Below lo w w'
def RowAt (s : ByteArray) (n : Nat) : Prop := ∀ (d a : Nat) (ps : List PieceD) (lo g : Nat) (w : World), d ≤ 3 → s.size - a ≤ n → Rd s lo g w a ps false →
  Calls Tryd.prog 47 #[.pointer (some ⟨g, 0, none⟩), .int .i64 (d : Int)] w (RowEnd s n d a ps lo g w)
/-- What the loop keeps. -/
structure RwInv (s : ByteArray) (n d a0 : Nat) (ps0 : List PieceD) (lo g : Nat) (w wr : World) (m a : Nat) (ps : List PieceD) (bad : Bool) : Prop where
  r : Rd s lo g wr a ps bad
  b : Below lo w wr
  hm : s.size - a ≤ m
  mn : m ≤ n
  ha : a0 ≤ a
  hl : ps0.length ≤ ps.length
  e : rdS n d (s.data.toList.drop a0) ps0 false = rdS m d (s.data.toList.drop a) ps bad
theorem RwInv.drewN {s : ByteArray} {n d a0 : Nat} {ps0 : List PieceD} {lo g : Nat} {w wr : World} {m a : Nat} {ps : List PieceD} {bad : Bool} (h : RwInv s n d a0 ps0 lo g w wr m a ps bad) (q : Nat) : RwInv s n d a0 ps0 lo g w (wr.drewN q) m a ps bad :=
  { h with r := h.r.drewN q, b := below_drewN h.b q }
theorem RwInv.done {s : ByteArray} {n d a0 : Nat} {ps0 : List PieceD} {lo g : Nat} {w wr : World} {m a : Nat} {ps : List PieceD} {bad : Bool} (h : RwInv s n d a0 ps0 lo g w wr m a ps bad) (hs : a = s.size ∨ bad = true) {e : Ending} (he : e = .returned (.tuple #[])) : RowEnd s n d a0 ps0 lo g w e wr := by
  refine ⟨he, a, ps, bad, h.ha, h.hl, ?_, h.r, h.b⟩
  rw [h.e]
  apply rdS_stop
  rcases hs with hs | hs
  · left
    rw [hs, List.drop_eq_nil_of_le (by rw [← ba_size]; exact Nat.le_refl _)]
  · exact .inr hs
set_option maxHeartbeats 8000000 in
set_option maxRecDepth 10000 in
theorem spec_row (s : ByteArray) (hl : s.size ≤ 1000) (n : Nat) : RowAt s n := by
  obtain ⟨iP, hi0, hz0, hz1', hz2⟩ := info_parts info_Piece
  have t1 : (45 : TypeId) ≠ 71 := by decide
  have t2 : (71 : TypeId) ≠ 45 := by decide
  induction n using Nat.strongRecOn with
  | ind n ih =>
  intro d a0 ps0 lo g w hd hn hR
  have IH := Lib.hid ih; clear ih
  have HR := Lib.hid hR
  have hlg := hR.hlo
  go_enter Tryd.func47, Tryd.ntmps47
  go_wp2_with (fail)
  go_loopg [4] n (fun m cv wr => ∃ (a : Nat) (ps : List PieceD) (bad : Bool), RwInv s n d a0 ps0 lo g w wr m a ps bad)
  case atStart => exact ⟨a0, ps0, false, HR.out, Below.refl _ _, hn, Nat.le_refl _, Nat.le_refl _, Nat.le_refl _, rfl⟩
  case round =>
    obtain ⟨a, ps, bad, HI⟩ := hrel
    obtain ⟨A, c, hk, ho⟩ := HI.r.ex
    have ha := HI.r.ha
    have hpn := HI.r.hn
    obtain ⟨q0, q1, q2, q3⟩ := hk.c4
    have g1 := hk.frozen 1
    have g2 := hk.frozen 2
    have g3 := hk.frozen 3
    have hb := HI.b
    by_cases hlt : a < s.size
    · have d1 : decide ((a : Int) < (s.size : Int)) = true := decide_eq_true (by omega)
      cases bad with
      | true =>
        go_wp2_with (fail)
        go_quiet (fail)
        go_wp2_with (fail)
        refine bodyPost_end (results_none rfl _ _ _) rfl ?_
        exact (HI.drewN _).done (.inr rfl) rfl
      | false =>
        have hu := (s[a]'hlt).toNat_lt
        have m1 : (0 : Int) ≤ (a : Int) := by omega
        have m2 : (a : Int) < (s.size : Int) := by omega
        have hms := HI.hm
        obtain ⟨m', hgk⟩ : ∃ m', gk = m' + 1 := ⟨gk - 1, by omega⟩
        subst hgk
        go_wp2_with (fail)
        go_quiet (fail)
        replace HI := HI.drewN nq
        generalize World.drewN wr nq = W1 at HI ⊢
        clear q0 q1 q2 q3 g1 g2 g3 hb ho hk
        obtain ⟨A, c, hk, ho⟩ := HI.r.ex
        obtain ⟨q0, q1, q2, q3⟩ := hk.c4
        go_wp2_with (fail)
        go_quiet (fail)
        replace HI := HI.drewN nq
        generalize World.drewN W1 nq = W at HI ⊢
        clear q0 q1 q2 q3 ho hk
        obtain ⟨A, c, hk, ho⟩ := HI.r.ex
        obtain ⟨q0, q1, q2, q3⟩ := hk.c4
        have g1 := hk.frozen 1
        have g2 := hk.frozen 2
        have g3 := hk.frozen 3
        have hb := HI.b
        have hE := HI.e
        rw [drop_byte hlt, rdS_cons] at hE
        by_cases hb41 : s[a]'hlt = 41
        · as_aux_lemma =>
            have e41 : (((s[a]'hlt).toNat : Int) == 41) = true := by rw [byte_is (n := 41) (z := 41) rfl, decide_eq_true hb41]
            rw [if_pos hb41] at hE
            have HE := Lib.hid hE
            clear hE hb41
            go_wp2_with (fail)
            refine bodyPost_ret (results_none rfl _ _ _) rfl ?_
            refine ⟨rfl, a + 1, ps, false, by have := HI.ha; omega, HI.hl, HE.out, ?_, ?_⟩
            · exact HI.r.at1 (by omega) (by omega) (by omega)
            · (repeat (first | exact Below.refl _ _ | assumption | apply Below.drew | apply below_drewN | (refine Below.alloc ?_ (by first | omega | (simp; done) | (simp; omega)) _) | (refine Below.setCell ?_ (by first | omega | (simp; done) | (simp; omega)) _)))
        have e41 : (((s[a]'hlt).toNat : Int) == 41) = false := by rw [byte_is (n := 41) (z := 41) rfl, decide_eq_false hb41]
        rw [if_neg hb41] at hE
        by_cases hb32 : s[a]'hlt = 32
        · as_aux_lemma =>
            have e32 : (((s[a]'hlt).toNat : Int) == 32) = true := by rw [byte_is (n := 32) (z := 32) rfl, decide_eq_true hb32]
            rw [if_pos hb32] at hE
            have HE := Lib.hid hE
            clear hE hb41 hb32
            by_cases h24 : 24 < ps.length
            · as_aux_lemma =>
                have d24 : decide ((24 : Int) < (ps.length : Int)) = true := decide_eq_true (by omega)
                go_wp2_with (fail)
                go_roundg m'
                case measure => omega
                case rel => exact ⟨a + 1, ps, true, (HI.r.at1 (by omega) (by omega) (by omega)).bad3 true, by (repeat (first | exact Below.refl _ _ | assumption | apply Below.drew | apply below_drewN | (refine Below.alloc ?_ (by first | omega | (simp; done) | (simp; omega)) _) | (refine Below.setCell ?_ (by first | omega | (simp; done) | (simp; omega)) _))), by omega, by have := HI.mn; omega, by have := HI.ha; omega, HI.hl, by rw [HE.out, decide_eq_true h24]⟩
            · as_aux_lemma =>
                have d24 : decide ((24 : Int) < (ps.length : Int)) = false := decide_eq_false (by omega)
                go_wp2_with (fail)
                go_roundg m'
                case measure => omega
                case rel => exact ⟨a + 1, ps, false, (HI.r.at1 (by omega) (by omega) (by omega)).bad3 false, by (repeat (first | exact Below.refl _ _ | assumption | apply Below.drew | apply below_drewN | (refine Below.alloc ?_ (by first | omega | (simp; done) | (simp; omega)) _) | (refine Below.setCell ?_ (by first | omega | (simp; done) | (simp; omega)) _))), by omega, by have := HI.mn; omega, by have := HI.ha; omega, HI.hl, by rw [HE.out, decide_eq_false h24]⟩
        have e32 : (((s[a]'hlt).toNat : Int) == 32) = false := by rw [byte_is (n := 32) (z := 32) rfl, decide_eq_false hb32]
        rw [if_neg hb32] at hE
        have hR1 := HI.r.at1 (a' := a + 1) (z := (a : Int) + 1) (by omega) (by omega) (by omega)
        have hb1 : Below lo w (W.setCell ⟨g, 1, none⟩ (.int .i64 ((a : Int) + 1))) := by (repeat (first | exact Below.refl _ _ | assumption | apply Below.drew | apply below_drewN | (refine Below.alloc ?_ (by first | omega | (simp; done) | (simp; omega)) _) | (refine Below.setCell ?_ (by first | omega | (simp; done) | (simp; omega)) _)))
        by_cases hb40 : s[a]'hlt = 40
        · as_aux_lemma =>
            have e40 : (((s[a]'hlt).toNat : Int) == 40) = true := by rw [byte_is (n := 40) (z := 40) rfl, decide_eq_true hb40]
            rw [if_pos hb40] at hE
            have hk1 := hk.set41 (.int .i64 ((a : Int) + 1))
            have ho1 : OwnC (W.setCell ⟨g, 1, none⟩ (.int .i64 ((a : Int) + 1))) lo (W.setCell ⟨g, 1, none⟩ (.int .i64 ((a : Int) + 1))).heap.size 45 3 A ps.length c (cellsPiece ps) := (ho.farT hk t2 1 _).mono (Nat.le_refl _) (by simp)
            have hz1 : lo ≤ (W.setCell ⟨g, 1, none⟩ (.int .i64 ((a : Int) + 1))).heap.size := by have := hk.lt; simp; omega
            have HE := Lib.hid hE
            clear hE hb41 hb32 hb40
            have hcat : (ps ++ [(⟨12, 0, 0⟩ : PieceD)]).length = ps.length + 1 := by simp
            have HCAT := Lib.hid hcat; clear hcat
            have key4 : ∀ (A3 : Option Addr) (c3 : Nat) (w3 : World), OwnC w3 lo w3.heap.size 45 3 A3 (ps.length + 1) c3 (cellsPiece ps ++ [.int .i64 12, .int .i64 0, .int .i64 0]) → Blk w3 g 71 #[.string s, .int .i64 ((a : Int) + 1), .slice A ps.length c, .bool false] → Rd s lo g (w3.setCell ⟨g, 2, none⟩ (.slice A3 (ps.length + 1) c3)) (a + 1) (ps ++ [⟨12, 0, 0⟩]) false := by
              intro A3 c3 w3 h1 h2
              refine ⟨⟨A3, c3, ?_, ?_⟩, HI.r.hlo, by omega, by rw [HCAT.out]; omega⟩
              · rw [HCAT.out, show ((a + 1 : Nat) : Int) = (a : Int) + 1 by omega]
                exact h2.set42 _
              · rw [HCAT.out, cellsPiece_append]
                exact (h1.farT h2 t2 2 _).mono (Nat.le_refl _) (by simp)
            have KEY4 := Lib.hid key4; clear key4
            by_cases hd3 : 3 ≤ d
            · as_aux_lemma =>
                have dd : decide ((3 : Int) ≤ (d : Int)) = true := decide_eq_true (by omega)
                have HE3 : Hid (rdS n d (s.data.toList.drop a0) ps0 false = (s.data.toList.drop (a + 1), ps ++ [⟨12, 0, 0⟩], true)) := Lib.hid (by rw [HE.out, if_pos hd3])
                go_wp2_with (at_builtin; refine wpList_append1 (W.setCell ⟨g, 1, none⟩ (.int .i64 ((a : Int) + 1))) [.int .i64 12, .int .i64 0, .int .i64 0] _ rfl (.tmp 102) (.tmp 104) _ rfl 45 iP _ 3 24 Tryd.underlying30 hi0 hz0 hz1' hz2 rfl (by decide) rfl ho1 hz1 1 (by simp; rfl) rfl (by simp [Value.oneCell']) (by omega) (by decide) ?_; intro A3 c3 w3 ho3 gr3 bl3 z3; have hk3 := (hk1.alloc (.cells #[.int .i64 12, .int .i64 0, .int .i64 0] 45)).grownT (ho1.alloc (.cells #[.int .i64 12, .int .i64 0, .int .i64 0] 45)) t2 gr3; obtain ⟨r0, r1, r2, r3⟩ := hk3.c4; have f2 := hk3.frozen 2; have f3 := hk3.frozen 3; clear gr3)
                have hb3 : Below lo w w3 := hb1.trans bl3
                refine bodyPost_ret (results_none rfl _ _ _) rfl ?_
                refine ⟨rfl, a + 1, ps ++ [⟨12, 0, 0⟩], true, by have := HI.ha; omega, by rw [HCAT.out]; have := HI.hl; omega, HE3.out, ?_, ?_⟩
                · exact (KEY4.out A3 c3 w3 ho3 hk3).bad3 true
                · (repeat (first | exact Below.refl _ _ | assumption | apply Below.drew | apply below_drewN | (refine Below.alloc ?_ (by first | omega | (simp; done) | (simp; omega)) _) | (refine Below.setCell ?_ (by first | omega | (simp; done) | (simp; omega)) _)))
            · as_aux_lemma =>
                have dd : decide ((3 : Int) ≤ (d : Int)) = false := decide_eq_false (by omega)
                have hmn := HI.mn
                have HCL : Hid (∀ W4, Rd s lo g W4 (a + 1) (ps ++ [⟨12, 0, 0⟩]) false → Calls Tryd.prog 47 #[.pointer (some ⟨g, 0, none⟩), .int .i64 ((d : Int) + 1)] W4 (RowEnd s m' (d + 1) (a + 1) (ps ++ [⟨12, 0, 0⟩]) lo g W4)) := Lib.hid (fun W4 h4 => by
                  have := IH.out m' (by omega) (d + 1) (a + 1) _ lo g W4 (by omega) (by omega) h4
                  rwa [show ((d + 1 : Nat) : Int) = (d : Int) + 1 by omega] at this)
                go_wp2_with (at_builtin; refine wpList_append1 (W.setCell ⟨g, 1, none⟩ (.int .i64 ((a : Int) + 1))) [.int .i64 12, .int .i64 0, .int .i64 0] _ rfl (.tmp 102) (.tmp 104) _ rfl 45 iP _ 3 24 Tryd.underlying30 hi0 hz0 hz1' hz2 rfl (by decide) rfl ho1 hz1 1 (by simp; rfl) rfl (by simp [Value.oneCell']) (by omega) (by decide) ?_; intro A3 c3 w3 ho3 gr3 bl3 z3; have hk3 := (hk1.alloc (.cells #[.int .i64 12, .int .i64 0, .int .i64 0] 45)).grownT (ho1.alloc (.cells #[.int .i64 12, .int .i64 0, .int .i64 0] 45)) t2 gr3; obtain ⟨r0, r1, r2, r3⟩ := hk3.c4; have f2 := hk3.frozen 2; have f3 := hk3.frozen 3; clear gr3)
                have hb3 : Below lo w w3 := hb1.trans bl3
                have hR4 := KEY4.out A3 c3 w3 ho3 hk3
                have hb4 : Below lo w (w3.setCell ⟨g, 2, none⟩ (.slice A3 (ps.length + 1) c3)) := by (repeat (first | exact Below.refl _ _ | assumption | apply Below.drew | apply below_drewN | (refine Below.alloc ?_ (by first | omega | (simp; done) | (simp; omega)) _) | (refine Below.setCell ?_ (by first | omega | (simp; done) | (simp; omega)) _)))
                refine (HCL.out _ hR4).mono ?_
                rintro e w5 ⟨rfl, a5, ps5, bad5, ha5, hp5, he5, hR5, hb5⟩
                have hE5 := HE.out
                rw [if_neg hd3, he5] at hE5
                rw [HCAT.out] at hp5
                have hlg5 := hR5.hlo
                have ha5s := hR5.ha
                have hn5 := hR5.hn
                obtain ⟨A5, c5, hk5, ho5⟩ := hR5.ex
                obtain ⟨x0, x1, x2, x3⟩ := hk5.c4
                have y1 := hk5.frozen 1
                have y3 := hk5.frozen 3
                have hb5' : Below lo w w5 := hb4.trans hb5
                clear r0 r1 r2 r3 f2 f3 q0 q1 q2 q3 g1 g2 g3 hb1 hb3 hb4 hb bl3 z3 hk1 hk3 ho1 ho3 hz1 hR4 hR1 hk ho
                by_cases hl5 : a5 < s.size
                · as_aux_lemma =>
                    have d17 : decide ((s.size : Int) ≤ (a5 : Int)) = false := decide_eq_false (by omega)
                    have n1 : (0 : Int) ≤ (a5 : Int) := by omega
                    have n2 : (a5 : Int) < (s.size : Int) := by omega
                    rw [drop_byte hl5] at hE5
                    by_cases hb42 : s[a5]'hl5 = 42
                    · as_aux_lemma =>
                        have e42 : (((s[a5]'hl5).toNat : Int) != 42) = false := by rw [bne, byte_is (n := 42) (z := 42) rfl, decide_eq_true hb42]; rfl
                        simp only [if_pos hb42] at hE5
                        have HE5 := Lib.hid hE5
                        clear hE5 hb42
                        go_wp2_with (fail)
                        go_quiet (fail)
                        replace hR5 := hR5.drewN nq
                        replace hb5' := below_drewN hb5' nq
                        generalize World.drewN w5 nq = W5 at hR5 hb5' ⊢
                        clear x0 x1 x2 x3 y1 y3 ho5 hk5
                        obtain ⟨A5, c5, hk5, ho5⟩ := hR5.ex
                        obtain ⟨x0, x1, x2, x3⟩ := hk5.c4
                        have y1 := hk5.frozen 1
                        obtain ⟨t, q, hT⟩ : ∃ t q, timesS (s.data.toList.drop (a5 + 1)) = (t, q) := ⟨_, _, rfl⟩
                        have hqle : a5 + 1 + q ≤ s.size := by
                          have := timesS_le (s.data.toList.drop (a5 + 1))
                          rw [hT, List.length_drop, ← ba_size] at this
                          simp only at this
                          omega
                        have HE6 : Hid (rdS n d (s.data.toList.drop a0) ps0 false = rdS m' d (s.data.toList.drop (a5 + 1 + q)) (closeP ps5 ps.length t) (bad5 || decide (24 < ps5.length))) := Lib.hid (by
                          have := HE5.out
                          rw [hT] at this
                          simp only at this
                          rwa [List.drop_drop] at this)
                        have HTM : Hid (∀ W, Calls Tryd.prog 79 #[.string (s.extract (a5 + 1) s.size)] W fun e w' => e = .returned (.tuple #[.int .i64 t, .int .i64 (q : Int)]) ∧ Below W.heap.size W w') := Lib.hid (fun W => spec_l16Times _ t q W (by rw [ByteArray.size_extract]; omega) (by
                          rw [ext_list s _ _ (Nat.le_refl _), List.take_of_length_le (by rw [List.length_drop, ← ba_size]; exact Nat.le_refl _)]
                          exact hT))
                        have hk6 := hk5.set41 (.int .i64 ((a5 : Int) + 1))
                        have hR6 := hR5.at1 (a' := a5 + 1) (z := (a5 : Int) + 1) (by omega) (by omega) (by omega)
                        have hb6 : Below lo w (W5.setCell ⟨g, 1, none⟩ (.int .i64 ((a5 : Int) + 1))) := by (repeat (first | exact Below.refl _ _ | assumption | apply Below.drew | apply below_drewN | (refine Below.alloc ?_ (by first | omega | (simp; done) | (simp; omega)) _) | (refine Below.setCell ?_ (by first | omega | (simp; done) | (simp; omega)) _)))
                        obtain ⟨z0, z1, z2, z3⟩ := hk6.c4
                        have n3 : (0 : Int) ≤ (a5 : Int) + 1 := by omega
                        have n4 : (a5 : Int) + 1 ≤ (s.size : Int) := by omega
                        have n5 : ((a5 : Int) + 1).toNat = a5 + 1 := by omega
                        clear HE5 HE hT
                        go_wp2_with (fail)
                        go_region_held3 (fun W' => W'.cell? ⟨g, 0, none⟩ = some (.string s) ∧ W'.cell? ⟨g, 1, none⟩ = some (.int .i64 ((a5 : Int) + 1))) (first | exact ⟨z0, z1⟩ | exact ⟨(hk6.below b6 hk6.lt).c4.1, (hk6.below b6 hk6.lt).c4.2.1⟩) ((go_at_call 79; refine (HTM.out _).mono ?_; rintro e w6 ⟨rfl, b6⟩; replace b6 := undrew b6))
                        have hR7 := hR6.below b6
                        have hb7 : Below lo w w6 := hb6.trans (b6.mono (by have := hk6.lt; omega))
                        have hk7 := hk6.below b6 hk6.lt
                        have ho7 : OwnC w6 lo w6.heap.size 45 3 A5 ps5.length c5 (cellsPiece ps5) := (OwnC.below ((ho5.farT hk5 t2 1 (.int .i64 ((a5 : Int) + 1))).mono (Nat.le_refl _) (Nat.le_refl _)) b6 (by simp)).mono (Nat.le_refl _) (by have := b6.size; simp at this; omega)
                        have hR8 := hR7.at1 (a' := a5 + 1 + q) (z := (a5 : Int) + 1 + (q : Int)) hqle (by omega) (by omega)
                        have hk8 : Blk (w6.setCell ⟨g, 1, none⟩ (.int .i64 ((a5 : Int) + 1 + (q : Int)))) g 71 #[.string s, .int .i64 ((a5 + 1 + q : Nat) : Int), .slice A5 ps5.length c5, .bool bad5] := by
                          rw [show ((a5 + 1 + q : Nat) : Int) = (a5 : Int) + 1 + (q : Int) by omega]
                          exact hk7.set41 _
                        have ho8 : OwnC (w6.setCell ⟨g, 1, none⟩ (.int .i64 ((a5 : Int) + 1 + (q : Int)))) lo (w6.setCell ⟨g, 1, none⟩ (.int .i64 ((a5 : Int) + 1 + (q : Int)))).heap.size 45 3 A5 ps5.length c5 (cellsPiece ps5) := (ho7.farT hk7 t2 1 _).mono (Nat.le_refl _) (by simp)
                        obtain ⟨gA, rfl, lA, hne, _, _, _, _, hR9⟩ := hR8.close hk8 ho8 (k := ps.length) (by omega) t
                        obtain ⟨gA', hA', _, _, ⟨v1, c71⟩, ⟨v2, c72⟩, f71, f72, _⟩ := hR7.close (by rw [show ((a5 + 1 : Nat) : Int) = (a5 : Int) + 1 by omega]; exact hk7) ho7 (k := ps.length) (by omega) t
                        injection hA' with hA'
                        injection hA' with hA'
                        subst hA'
                        obtain ⟨r0, r1, r2, r3⟩ := hk7.c4
                        have f1 := hk7.frozen 1
                        have f3 := hk7.frozen 3
                        have hne' : g ≠ gA := Ne.symm hne
                        have HK9 := Lib.hid ((hk7.set41 (.int .i64 ((a5 : Int) + 1 + (q : Int)))).far (p := ⟨gA, ps.length * 3 + 1, none⟩) hne' (.int .i64 t)).c4.2.2.1
                        have n6 : (0 : Int) ≤ (ps.length : Int) := by omega
                        have n7 : (ps.length : Int) < (ps5.length : Int) := by omega
                        have n8 : IntKind.i64.wrap ((ps5.length : Int) - 1) = (ps5.length : Int) - 1 := IntWalk.i64_in _ ⟨by omega, by omega⟩
                        have n9 : IntKind.i64.wrap ((ps5.length : Int) - 1 - (ps.length : Int)) = (ps5.length : Int) - 1 - (ps.length : Int) := IntWalk.i64_in _ ⟨by omega, by omega⟩
                        have HR9 := Lib.hid hR9
                        clear hR9 z0 z1 z2 z3 x0 x1 x2 x3 y1 hk8 ho8 hR8 hk6 hR6 hb6 b6 hk7 ho7 hR7 ho5 hk5
                        go_wp2_with (fail)
                        (refine wp_region_pops 1 (S := (fun W' => W'.cell? ⟨g, 2, none⟩ = some (.slice (some ⟨gA, 0, none⟩) ps5.length c5))) (pre := ?_) (T := ?_) (n := ?_) (by kernel_rfl) (by kernel_rfl) ?_ ?_ ?_ ?_ (fun hHeld => ?_); rotate_left 3; (focus (simp only [pops, List.pop_toArray, List.dropLast_cons_cons, List.dropLast_singleton]; rfl)); (focus (simp only [tailOf, List.back?_toArray, List.getLast?_cons_cons, List.getLast?_singleton, Option.toList_some, List.nil_append]; rfl)); (focus rfl); (focus (exact HK9.out)))
                        ((refine wpAnyH_take (i := 0) (v := ?_) rfl (by kernel_rfl) (by kernel_rfl) (by kernel_rfl) (fun _ _ _ h => h) (Or.inl ⟨by rfl, ?_⟩) (by assumption) ?_; rotate_left; (focus (intro W hSw; (try dsimp only at hSw); go_simp; try (with_reducible rfl)))); (try simp only [List.getElem_toArray, List.getElem_cons_zero, Act.put, List.setIfInBounds_toArray, List.set_cons_zero, List.set_cons_succ]); (refine wpAnyH_take (i := 1) (v := ?_) rfl (by kernel_rfl) (by kernel_rfl) (by kernel_rfl) (fun _ _ _ h => h) (Or.inl ⟨by rfl, ?_⟩) (by assumption) ?_; rotate_left; (focus (intro W hSw; (try dsimp only at hSw); go_simp; try (with_reducible rfl)))); (try simp only [List.getElem_toArray, List.getElem_cons_zero, List.getElem_cons_succ, Act.put, List.setIfInBounds_toArray, List.set_cons_zero, List.set_cons_succ]); (refine wpAnyH_take (i := 2) (v := ?_) rfl (by kernel_rfl) (by kernel_rfl) (by kernel_rfl) (fun _ _ _ h => h) (Or.inl ⟨by rfl, ?_⟩) (by assumption) ?_; rotate_left; (focus (intro W hSw; (try dsimp only at hSw); go_simp; try (with_reducible rfl)))); (try simp only [List.getElem_toArray, List.getElem_cons_zero, List.getElem_cons_succ, Act.put, List.setIfInBounds_toArray, List.set_cons_zero, List.set_cons_succ]); (refine wpAnyH_take (i := 3) (v := ?_) rfl (by kernel_rfl) (by kernel_rfl) (by kernel_rfl) (fun _ _ _ h => h) (Or.inl ⟨by rfl, ?_⟩) (by assumption) ?_; rotate_left; (focus (intro W hSw; (try dsimp only at hSw); go_simp; try (with_reducible rfl)))); (try simp only [List.getElem_toArray, List.getElem_cons_zero, List.getElem_cons_succ, Act.put, List.setIfInBounds_toArray, List.set_cons_zero, List.set_cons_succ]); (refine wpAnyH_take (i := 4) (v := ?_) rfl (by kernel_rfl) (by kernel_rfl) (by kernel_rfl) (fun _ _ _ h => h) (Or.inl ⟨by rfl, ?_⟩) (by assumption) ?_; rotate_left; (focus (intro W hSw; (try dsimp only at hSw); go_simp; try (with_reducible rfl)))); (try simp only [List.getElem_toArray, List.getElem_cons_zero, List.getElem_cons_succ, Act.put, List.setIfInBounds_toArray, List.set_cons_zero, List.set_cons_succ]); (refine wpAnyH_take (i := 5) (v := ?_) rfl (by kernel_rfl) (by kernel_rfl) (by kernel_rfl) (fun _ _ _ h => h) (Or.inl ⟨by rfl, ?_⟩) (by assumption) ?_; rotate_left; (focus (intro W hSw; (try dsimp only at hSw); go_simp; try (with_reducible rfl)))); (try simp only [List.getElem_toArray, List.getElem_cons_zero, List.getElem_cons_succ, Act.put, List.setIfInBounds_toArray, List.set_cons_zero, List.set_cons_succ]); (refine wpAnyH_take (i := 6) (v := ?_) rfl (by kernel_rfl) (by kernel_rfl) (by kernel_rfl) (fun _ _ _ h => h) (Or.inl ⟨by rfl, ?_⟩) (by assumption) ?_; rotate_left; (focus (intro W hSw; (try dsimp only at hSw); go_simp; try (with_reducible rfl)))); (try simp only [List.getElem_toArray, List.getElem_cons_zero, List.getElem_cons_succ, Act.put, List.setIfInBounds_toArray, List.set_cons_zero, List.set_cons_succ]); (refine wpAnyH_take (i := 7) (v := ?_) rfl (by kernel_rfl) (by kernel_rfl) (by kernel_rfl) (fun _ _ _ h => h) (Or.inl ⟨by rfl, ?_⟩) (by assumption) ?_; rotate_left; (focus (intro W hSw; (try dsimp only at hSw); go_simp; try (with_reducible rfl)))); (try simp only [List.getElem_toArray, List.getElem_cons_zero, List.getElem_cons_succ, Act.put, List.setIfInBounds_toArray, List.set_cons_zero, List.set_cons_succ]); (refine wpAnyH_take (i := 8) (v := ?_) rfl (by kernel_rfl) (by kernel_rfl) (by kernel_rfl) (fun _ _ _ h => h) (Or.inl ⟨by rfl, ?_⟩) (by assumption) ?_; rotate_left; (focus (intro W hSw; (try dsimp only at hSw); go_simp; try (with_reducible rfl)))); (try simp only [List.getElem_toArray, List.getElem_cons_zero, List.getElem_cons_succ, Act.put, List.setIfInBounds_toArray, List.set_cons_zero, List.set_cons_succ]); (refine wpAnyH_take (i := 9) (v := ?_) rfl (by kernel_rfl) (by kernel_rfl) (by kernel_rfl) (fun _ _ _ h => h) (Or.inl ⟨by rfl, ?_⟩) (by assumption) ?_; rotate_left; (focus (intro W hSw; (try dsimp only at hSw); go_simp; try (with_reducible rfl)))); (try simp only [List.getElem_toArray, List.getElem_cons_zero, List.getElem_cons_succ, Act.put, List.setIfInBounds_toArray, List.set_cons_zero, List.set_cons_succ]); (refine wpAnyH_take (i := 10) (v := ?_) rfl (by kernel_rfl) (by kernel_rfl) (by kernel_rfl) (fun _ _ _ h => h) (Or.inl ⟨by rfl, ?_⟩) (by assumption) ?_; rotate_left; (focus (intro W hSw; (try dsimp only at hSw); go_simp; try (with_reducible rfl)))); (try simp only [List.getElem_toArray, List.getElem_cons_zero, List.getElem_cons_succ, Act.put, List.setIfInBounds_toArray, List.set_cons_zero, List.set_cons_succ]); (refine wpAnyH_take (i := 11) (v := ?_) rfl (by kernel_rfl) (by kernel_rfl) (by kernel_rfl) (fun _ _ _ h => h) (Or.inl ⟨by rfl, ?_⟩) (by assumption) ?_; rotate_left; (focus (intro W hSw; (try dsimp only at hSw); go_simp; try (with_reducible rfl)))); (try simp only [List.getElem_toArray, List.getElem_cons_zero, List.getElem_cons_succ, Act.put, List.setIfInBounds_toArray, List.set_cons_zero, List.set_cons_succ]); (refine wpAnyH_take (i := 12) (v := ?_) rfl (by kernel_rfl) (by kernel_rfl) (by kernel_rfl) (fun _ _ _ h => h) (Or.inl ⟨by rfl, ?_⟩) (by assumption) ?_; rotate_left; (focus (intro W hSw; (try dsimp only at hSw); go_simp; try (with_reducible rfl)))); (try simp only [List.getElem_toArray, List.getElem_cons_zero, List.getElem_cons_succ, Act.put, List.setIfInBounds_toArray, List.set_cons_zero, List.set_cons_succ]); (refine wpAnyH_take (i := 13) (v := ?_) rfl (by kernel_rfl) (by kernel_rfl) (by kernel_rfl) (fun _ _ _ h => h) (Or.inl ⟨by rfl, ?_⟩) (by assumption) ?_; rotate_left; (focus (intro W hSw; (try dsimp only at hSw); go_simp; try (with_reducible rfl)))); (try simp only [List.getElem_toArray, List.getElem_cons_zero, List.getElem_cons_succ, Act.put, List.setIfInBounds_toArray, List.set_cons_zero, List.set_cons_succ]); (refine wpAnyH_take (i := 14) (v := ?_) rfl (by kernel_rfl) (by kernel_rfl) (by kernel_rfl) (fun _ _ _ h => h) (Or.inl ⟨by rfl, ?_⟩) (by assumption) ?_; rotate_left; (focus (intro W hSw; (try dsimp only at hSw); go_simp; try (with_reducible rfl)))); (try simp only [List.getElem_toArray, List.getElem_cons_zero, List.getElem_cons_succ, Act.put, List.setIfInBounds_toArray, List.set_cons_zero, List.set_cons_succ]))
                        (refine wpAnyH_done (by kernel_rfl) ?_ _; change wpList _ _ _ _ _ _)
                        have hcp := closeP_length ps5 ps.length t
                        have HCP := Lib.hid hcp; clear hcp
                        cases bad5 with
                        | true =>
                          go_wp2_with (fail)
                          go_roundg m'
                          case measure => omega
                          case rel => exact ⟨a5 + 1 + q, closeP ps5 ps.length t, true, (HR9.out.bad3 true).drew1, by (repeat (first | exact Below.refl _ _ | assumption | apply Below.drew | apply below_drewN | (refine Below.alloc ?_ (by first | omega | (simp; done) | (simp; omega)) _) | (refine Below.setCell ?_ (by first | omega | (simp; done) | (simp; omega)) _))), by omega, by have := HI.mn; omega, by have := HI.ha; omega, by rw [HCP.out]; have := HI.hl; omega, HE6.out⟩
                        | false =>
                          by_cases h24 : 24 < ps5.length
                          · as_aux_lemma =>
                              have d24 : decide ((24 : Int) < (ps5.length : Int)) = true := decide_eq_true (by omega)
                              go_wp2_with (fail)
                              go_roundg m'
                              case measure => omega
                              case rel => exact ⟨a5 + 1 + q, closeP ps5 ps.length t, true, (HR9.out.bad3 true).drew1, by (repeat (first | exact Below.refl _ _ | assumption | apply Below.drew | apply below_drewN | (refine Below.alloc ?_ (by first | omega | (simp; done) | (simp; omega)) _) | (refine Below.setCell ?_ (by first | omega | (simp; done) | (simp; omega)) _))), by omega, by have := HI.mn; omega, by have := HI.ha; omega, by rw [HCP.out]; have := HI.hl; omega, by rw [HE6.out, decide_eq_true h24]; rfl⟩
                          · as_aux_lemma =>
                              have d24 : decide ((24 : Int) < (ps5.length : Int)) = false := decide_eq_false (by omega)
                              go_wp2_with (fail)
                              go_roundg m'
                              case measure => omega
                              case rel => exact ⟨a5 + 1 + q, closeP ps5 ps.length t, false, (HR9.out.bad3 false).drew1, by (repeat (first | exact Below.refl _ _ | assumption | apply Below.drew | apply below_drewN | (refine Below.alloc ?_ (by first | omega | (simp; done) | (simp; omega)) _) | (refine Below.setCell ?_ (by first | omega | (simp; done) | (simp; omega)) _))), by omega, by have := HI.mn; omega, by have := HI.ha; omega, by rw [HCP.out]; have := HI.hl; omega, by rw [HE6.out, decide_eq_false h24]; rfl⟩
                    · have e42 : (((s[a5]'hl5).toNat : Int) != 42) = true := by rw [bne, byte_is (n := 42) (z := 42) rfl, decide_eq_false hb42]; rfl
                      simp only [if_neg hb42] at hE5
                      rw [← drop_byte hl5] at hE5
                      have HE5 := Lib.hid hE5
                      clear hE5 hb42
                      go_wp2_with (fail)
                      go_quiet (fail)
                      go_wp2_with (fail)
                      refine bodyPost_ret (results_none rfl _ _ _) rfl ?_
                      refine ⟨rfl, a5, ps5, true, by have := HI.ha; omega, by have := HI.hl; omega, HE5.out, ?_, ?_⟩
                      · exact (hR5.bad3 true).drewN _
                      · (repeat (first | exact Below.refl _ _ | assumption | apply Below.drew | apply below_drewN | (refine Below.alloc ?_ (by first | omega | (simp; done) | (simp; omega)) _) | (refine Below.setCell ?_ (by first | omega | (simp; done) | (simp; omega)) _)))
                · as_aux_lemma =>
                    have d17 : decide ((s.size : Int) ≤ (a5 : Int)) = true := decide_eq_true (by omega)
                    have hdn : s.data.toList.drop a5 = [] := List.drop_eq_nil_of_le (by rw [← ba_size]; omega)
                    rw [hdn] at hE5
                    simp only at hE5
                    rw [← hdn] at hE5
                    have HE5 := Lib.hid hE5
                    clear hE5 hdn
                    go_wp2_with (fail)
                    go_quiet (fail)
                    go_wp2_with (fail)
                    refine bodyPost_ret (results_none rfl _ _ _) rfl ?_
                    refine ⟨rfl, a5, ps5, true, by have := HI.ha; omega, by have := HI.hl; omega, HE5.out, ?_, ?_⟩
                    · exact (hR5.bad3 true).drewN _
                    · (repeat (first | exact Below.refl _ _ | assumption | apply Below.drew | apply below_drewN | (refine Below.alloc ?_ (by first | omega | (simp; done) | (simp; omega)) _) | (refine Below.setCell ?_ (by first | omega | (simp; done) | (simp; omega)) _)))
        have e40 : (((s[a]'hlt).toNat : Int) == 40) = false := by rw [byte_is (n := 40) (z := 40) rfl, decide_eq_false hb40]
        rw [if_neg hb40] at hE
        obtain ⟨t, q, hT⟩ : ∃ t q, timesS (s.data.toList.drop (a + 1)) = (t, q) := ⟨_, _, rfl⟩
        have hqle : a + 1 + q ≤ s.size := by
          have := timesS_le (s.data.toList.drop (a + 1))
          rw [hT, List.length_drop, ← ba_size] at this
          simp only at this
          omega
        rw [hT, List.drop_drop] at hE
        simp only at hE
        have HTM : Hid (∀ W, Calls Tryd.prog 79 #[.string (s.extract (a + 1) s.size)] W fun e w' => e = .returned (.tuple #[.int .i64 t, .int .i64 (q : Int)]) ∧ Below W.heap.size W w') := Lib.hid (fun W => spec_l16Times _ t q W (by rw [ByteArray.size_extract]; omega) (by
          rw [ext_list s _ _ (Nat.le_refl _), List.take_of_length_le (by rw [List.length_drop, ← ba_size]; exact Nat.le_refl _)]
          exact hT))
        have HKD : Hid (∀ W, Calls Tryd.prog 80 #[.string ⟨#[s[a]'hlt]⟩] W fun e w' => e = .returned (.int .i64 (kindB (s[a]'hlt))) ∧ W = w') := Lib.hid (fun W => spec_KindOf _ W)
        generalize kindB (s[a]'hlt) = kb at hE HKD
        have HE := Lib.hid hE
        clear hE hb41 hb32 hb40 hT
        have hk1 := hk.set41 (.int .i64 ((a : Int) + 1))
        have ho1 : OwnC (W.setCell ⟨g, 1, none⟩ (.int .i64 ((a : Int) + 1))) lo (W.setCell ⟨g, 1, none⟩ (.int .i64 ((a : Int) + 1))).heap.size 45 3 A ps.length c (cellsPiece ps) := (ho.farT hk t2 1 _).mono (Nat.le_refl _) (by simp)
        have kc : (convert 40 9 (.slice (some ⟨W.heap.size, 0, none⟩) 1 1)).run Tryd.prog ((W.setCell ⟨g, 1, none⟩ (.int .i64 ((a : Int) + 1))).alloc (.cells #[.int .u8 ((s[a]'hlt).toNat : Int)] 5)) = .ok (.string ⟨#[s[a]'hlt]⟩) ((W.setCell ⟨g, 1, none⟩ (.int .i64 ((a : Int) + 1))).alloc (.cells #[.int .u8 ((s[a]'hlt).toNat : Int)] 5)) :=
          run_convert_bytes_back (P := Tryd.prog) _ 40 9 5 ⟨W.heap.size, 0, none⟩ 1 [s[a]'hlt] Tryd.underlying40 Tryd.underlying5 Tryd.underlying9 (fun j hj => by
            have hj0 : j = 0 := by simpa using hj
            subst hj0
            have := World.cell?_alloc_new (W.setCell ⟨g, 1, none⟩ (.int .i64 ((a : Int) + 1))) #[.int .u8 ((s[a]'hlt).toNat : Int)] 5 0
            simpa [Addr.add] using this)
        have HKC := Lib.hid kc
        go_wp2_with (go_at_call 80; refine (HKD.out _).mono ?_; rintro e w' ⟨rfl, rfl⟩)
        obtain ⟨WA, hWA⟩ : ∃ WA, WA = ((W.setCell ⟨g, 1, none⟩ (.int .i64 ((a : Int) + 1))).alloc (.cells #[.int .u8 ((s[a]'hlt).toNat : Int)] 5)).alloc (.cells #[.int .i64 kb, .int .i64 1, .int .i64 0] 45) := ⟨_, rfl⟩
        have hkA : Blk WA g 71 #[.string s, .int .i64 ((a : Int) + 1), .slice A ps.length c, .bool false] := by rw [hWA]; exact (hk1.alloc _).alloc _
        have hoA : OwnC WA lo W.heap.size 45 3 A ps.length c (cellsPiece ps) := by rw [hWA]; exact ((ho.farT hk t2 1 _).alloc _).alloc _
        have hpA : Blk WA (W.heap.size + 1) 45 #[.int .i64 kb, .int .i64 1, .int .i64 0] := by
          rw [hWA]
          have := Blk.new ((W.setCell ⟨g, 1, none⟩ (.int .i64 ((a : Int) + 1))).alloc (.cells #[.int .u8 ((s[a]'hlt).toNat : Int)] 5)) 45 #[.int .i64 kb, .int .i64 1, .int .i64 0]
          simpa using this
        have hgW := hk.lt
        have hbA : Below lo w WA := by rw [hWA]; (repeat (first | exact Below.refl _ _ | assumption | apply Below.drew | apply below_drewN | (refine Below.alloc ?_ (by first | omega | (simp; done) | (simp; omega)) _) | (refine Below.setCell ?_ (by first | omega | (simp; done) | (simp; omega)) _)))
        have hzA : W.heap.size + 2 ≤ WA.heap.size := by rw [hWA]; simp
        rw [← hWA]
        clear hWA kc HKC
        obtain ⟨z0, z1, z2, z3⟩ := hkA.c4
        have n3 : (0 : Int) ≤ (a : Int) + 1 := by omega
        have n4 : (a : Int) + 1 ≤ (s.size : Int) := by omega
        have n5 : ((a : Int) + 1).toNat = a + 1 := by omega
        clear q0 q1 q2 q3 g1 g2 g3 hk1 ho1 hk ho hR1 hb1 hb
        go_region_held3 (fun W' => W'.cell? ⟨g, 0, none⟩ = some (.string s) ∧ W'.cell? ⟨g, 1, none⟩ = some (.int .i64 ((a : Int) + 1))) (first | exact ⟨z0, z1⟩ | exact ⟨(hkA.below b6 hkA.lt).c4.1, (hkA.below b6 hkA.lt).c4.2.1⟩) ((go_at_call 79; refine (HTM.out _).mono ?_; rintro e w6 ⟨rfl, b6⟩; replace b6 := undrew b6))
        have hk6 := hkA.below b6 hkA.lt
        have ho6 := OwnC.below hoA b6 (by omega)
        have hp6 := hpA.below b6 hpA.lt
        have hb6 : Below lo w w6 := hbA.trans (b6.mono (by omega))
        have hz6 : W.heap.size + 2 ≤ w6.heap.size := Nat.le_trans hzA b6.size
        clear z0 z1 z2 z3 hkA hoA hpA hbA hzA b6
        obtain ⟨r0, r1, r2, r3⟩ := hk6.c4
        obtain ⟨p0, p1, p2⟩ := hp6.c3
        have f1 := hk6.frozen 1
        have f3 := hk6.frozen 3
        have fp := hp6.frozen 1
        have hgp : g ≠ W.heap.size + 1 := by omega
        have hgp' : W.heap.size + 1 ≠ g := by omega
        have hkX6 := hk6.set41 (.int .i64 ((a : Int) + 1 + (q : Int)))
        by_cases hq : 0 < q
        · as_aux_lemma =>
            have dq : decide ((0 : Int) < (q : Int)) = true := decide_eq_true (by omega)
            go_wp2_with (fail)
            obtain ⟨X, hX⟩ : ∃ X, X = (w6.setCell ⟨W.heap.size + 1, 1, none⟩ (.int .i64 t)).setCell ⟨g, 1, none⟩ (.int .i64 ((a : Int) + 1 + (q : Int))) := ⟨_, rfl⟩
            have hkX : Blk X g 71 #[.string s, .int .i64 ((a : Int) + 1 + (q : Int)), .slice A ps.length c, .bool false] := by rw [hX]; exact (hk6.far (p := ⟨W.heap.size + 1, 1, none⟩) hgp _).set41 _
            have hpX : Blk X (W.heap.size + 1) 45 #[.int .i64 kb, .int .i64 t, .int .i64 0] := by rw [hX]; exact (hp6.set31 _).far (p := ⟨g, 1, none⟩) hgp' _
            have hoX : OwnC X lo W.heap.size 45 3 A ps.length c (cellsPiece ps) := by rw [hX]; exact (ho6.far (p := ⟨W.heap.size + 1, 1, none⟩) (.inr (by show W.heap.size ≤ W.heap.size + 1; omega)) _).farT (hk6.far (p := ⟨W.heap.size + 1, 1, none⟩) hgp _) t2 1 _
            have hbX : Below lo w X := by rw [hX]; (repeat (first | exact Below.refl _ _ | assumption | apply Below.drew | apply below_drewN | (refine Below.alloc ?_ (by first | omega | (simp; done) | (simp; omega)) _) | (refine Below.setCell ?_ (by first | omega | (simp; done) | (simp; omega)) _)))
            have hzX : W.heap.size + 2 ≤ X.heap.size := by rw [hX]; simp; omega
            have HQ : Hid ((if 0 < q then t else 1) = t) := Lib.hid (if_pos hq)
            have HX := Lib.hid hX
            rw [← hX]
            clear hX r0 r1 r2 r3 p0 p1 p2 f1 f3 fp
            have hk9 := hkX.c4
            have hp9 := hpX.c3
            (refine wp_region_pops 3 (S := (fun W' => W'.cell? ⟨g, 2, none⟩ = some (.slice A ps.length c) ∧ W'.cell? ⟨W.heap.size + 1, 0, none⟩ = some (.int .i64 kb) ∧ W'.cell? ⟨W.heap.size + 1, 1, none⟩ = some (.int .i64 t) ∧ W'.cell? ⟨W.heap.size + 1, 2, none⟩ = some (.int .i64 0))) (pre := ?_) (T := ?_) (n := ?_) (by kernel_rfl) (by kernel_rfl) ?_ ?_ ?_ ?_ (fun hHeld => ?_); rotate_left 3; (focus (simp only [pops, List.pop_toArray, List.dropLast_cons_cons, List.dropLast_singleton]; rfl)); (focus (simp only [tailOf, List.pop_toArray, List.dropLast_cons_cons, List.dropLast_singleton, List.back?_toArray, List.getLast?_cons_cons, List.getLast?_singleton, Option.toList_some, List.nil_append, List.cons_append]; rfl)); (focus rfl); (focus (exact ⟨hk9.2.2.1, hp9.1, hp9.2.1, hp9.2.2⟩)))
            ((refine wpAnyH_take (i := 0) (v := ?_) rfl (by kernel_rfl) (by kernel_rfl) (by kernel_rfl) (fun _ _ _ h => h) (Or.inl ⟨by rfl, ?_⟩) (by assumption) ?_; rotate_left; (focus (intro W hSw; (try dsimp only at hSw); go_simp; try (with_reducible rfl)))); (try simp only [List.getElem_toArray, List.getElem_cons_zero, Act.put, List.setIfInBounds_toArray, List.set_cons_zero, List.set_cons_succ]); (refine wpAnyH_take (i := 1) (v := ?_) rfl (by kernel_rfl) (by kernel_rfl) (by kernel_rfl) (fun _ _ _ h => h) (Or.inl ⟨by rfl, ?_⟩) (by assumption) ?_; rotate_left; (focus (intro W hSw; (try dsimp only at hSw); go_simp; try (with_reducible rfl)))); (try simp only [List.getElem_toArray, List.getElem_cons_zero, List.getElem_cons_succ, Act.put, List.setIfInBounds_toArray, List.set_cons_zero, List.set_cons_succ]); (refine wpAnyH_take (i := 2) (v := ?_) rfl (by kernel_rfl) (by kernel_rfl) (by kernel_rfl) (fun _ _ _ h => h) (Or.inl ⟨by rfl, ?_⟩) (by assumption) ?_; rotate_left; (focus (intro W hSw; (try dsimp only at hSw); go_simp; try (with_reducible rfl)))); (try simp only [List.getElem_toArray, List.getElem_cons_zero, List.getElem_cons_succ, Act.put, List.setIfInBounds_toArray, List.set_cons_zero, List.set_cons_succ]); (refine wpAnyH_take (i := 3) (v := ?_) rfl (by kernel_rfl) (by kernel_rfl) (by kernel_rfl) (fun _ _ _ h => h) (Or.inl ⟨by rfl, ?_⟩) (by assumption) ?_; rotate_left; (focus (intro W hSw; (try dsimp only at hSw); go_simp; try (with_reducible rfl)))); (try simp only [List.getElem_toArray, List.getElem_cons_zero, List.getElem_cons_succ, Act.put, List.setIfInBounds_toArray, List.set_cons_zero, List.set_cons_succ]); (refine wpAnyH_take (i := 4) (v := ?_) rfl (by kernel_rfl) (by kernel_rfl) (by kernel_rfl) (fun _ _ _ h => h) (Or.inl ⟨by rfl, ?_⟩) (by assumption) ?_; rotate_left; (focus (intro W hSw; (try dsimp only at hSw); go_simp; try (with_reducible rfl)))); (try simp only [List.getElem_toArray, List.getElem_cons_zero, List.getElem_cons_succ, Act.put, List.setIfInBounds_toArray, List.set_cons_zero, List.set_cons_succ]); (refine wpAnyH_take (i := 5) (v := ?_) rfl (by kernel_rfl) (by kernel_rfl) (by kernel_rfl) (fun _ _ _ h => h) (Or.inl ⟨by rfl, ?_⟩) (by assumption) ?_; rotate_left; (focus (intro W hSw; (try dsimp only at hSw); go_simp; try (with_reducible rfl)))); (try simp only [List.getElem_toArray, List.getElem_cons_zero, List.getElem_cons_succ, Act.put, List.setIfInBounds_toArray, List.set_cons_zero, List.set_cons_succ]))
            (refine wpAnyH_ready (rs := [6]) (by kernel_rfl) (by simp) ?_; refine AllReadyH.cons rfl (fun K hK => ?_) AllReadyH.nil)
            go_simp
            refine hK.out _ _ ⟨(hkX.drew1.alloc _).c4.2.2.1, (hpX.drew1.alloc _).c3.1, (hpX.drew1.alloc _).c3.2.1, (hpX.drew1.alloc _).c3.2.2⟩ (fun hHeld => ?_)
            clear hK K
            (try simp only [List.getElem_toArray, List.getElem_cons_zero, List.getElem_cons_succ, Act.put, List.setIfInBounds_toArray, List.set_cons_zero, List.set_cons_succ])
            have hlz : lo ≤ ((World.drew X).alloc (.cells #[.int .i64 kb, .int .i64 t, .int .i64 0] 45)).heap.size := by have := HI.r.hlo; have e : (World.drew X).heap.size = X.heap.size := rfl; rw [World.size_alloc, e]; omega
            have olit := OwnC.news (OwnC.lit (w := World.drew X) (lo := lo) (n := 1) 45 3 #[.int .i64 kb, .int .i64 t, .int .i64 0] (by have := HI.r.hlo; have e : (World.drew X).heap.size = X.heap.size := rfl; omega) (by decide) rfl)
            (refine wpAnyH_ready (rs := [7]) (by kernel_rfl) (by simp) ?_; refine AllReadyH.cons rfl (fun K hK => ?_) AllReadyH.nil)
            refine wp_appendC_at ((World.drew X).alloc (.cells #[.int .i64 kb, .int .i64 t, .int .i64 0] 45)) (.tmp 78) (.tmp 80) _ rfl 45 iP _ 3 24 Tryd.underlying30 hi0 hz0 hz1' hz2 rfl (by decide) (by simp [Act.eval]) ((OwnC.drew1 hoX).alloc _) hlz (some ⟨X.heap.size, 0, none⟩) 1 1 [.int .i64 kb, .int .i64 t, .int .i64 0] (by simp [Act.eval]) (by simp) olit (by simp [Value.oneCell']) (by unfold maxLen; omega) (by omega) ?_
            intro A9 c9 w8 ho8 hg8 hb8 _
            have hk8 := (hkX.drew1.alloc (.cells #[.int .i64 kb, .int .i64 t, .int .i64 0] 45)).grownT ((OwnC.drew1 hoX).alloc (.cells #[.int .i64 kb, .int .i64 t, .int .i64 0] 45)) t2 hg8
            have hp8 := (hpX.drew1.alloc (.cells #[.int .i64 kb, .int .i64 t, .int .i64 0] 45)).grownO hoX hg8 (by omega)
            refine hK.out _ _ ⟨hk8.c4.2.2.1, hp8.c3.1, hp8.c3.2.1, hp8.c3.2.2⟩ (fun hHeld => ?_)
            clear hK K
            (try simp only [List.getElem_toArray, List.getElem_cons_zero, List.getElem_cons_succ, Act.put, List.setIfInBounds_toArray, List.set_cons_zero, List.set_cons_succ])
            (refine wpAnyH_done (by kernel_rfl) ?_ _; change wpList _ _ _ _ _ _)
            obtain ⟨v0, v1, v2, v3⟩ := hk8.c4
            have e2 := hk8.frozen 2
            have e3 := hk8.frozen 3
            have hcat : (ps ++ [(⟨kb, t, 0⟩ : PieceD)]).length = ps.length + 1 := by simp
            have hRF : Rd s lo g (w8.setCell ⟨g, 2, none⟩ (.slice A9 (ps.length + 1) c9)) (a + 1 + q) (ps ++ [⟨kb, t, 0⟩]) false := by
              refine ⟨⟨A9, c9, ?_, ?_⟩, HI.r.hlo, hqle, by rw [hcat]; omega⟩
              · rw [hcat, show ((a + 1 + q : Nat) : Int) = (a : Int) + 1 + (q : Int) by omega]
                exact hk8.set42 _
              · rw [hcat, cellsPiece_append]
                exact (OwnC.farT ho8 hk8 t2 2 _).mono (Nat.le_refl _) (by simp)
            have HCAT := Lib.hid hcat; clear hcat
            have HRF := Lib.hid hRF; clear hRF
            have hb9 : Below lo w w8 := (Below.alloc (Below.drew hbX) (by have := HI.r.hlo; have e : (World.drew X).heap.size = X.heap.size := rfl; omega) _).trans hb8
            clear hHeld
            by_cases h24 : 24 < ps.length + 1
            · as_aux_lemma =>
                have d24 : decide ((24 : Int) < (ps.length : Int) + 1) = true := decide_eq_true (by omega)
                go_wp2_with (fail)
                go_roundg m'
                case measure => omega
                case rel => exact ⟨a + 1 + q, ps ++ [⟨kb, t, 0⟩], true, HRF.out.bad3 true, by (repeat (first | exact Below.refl _ _ | assumption | apply Below.drew | apply below_drewN | (refine Below.alloc ?_ (by first | omega | (simp; done) | (simp; omega)) _) | (refine Below.setCell ?_ (by first | omega | (simp; done) | (simp; omega)) _))), by omega, by have := HI.mn; omega, by have := HI.ha; omega, by rw [HCAT.out]; have := HI.hl; omega, by rw [HE.out, HQ.out, decide_eq_true h24]⟩
            · as_aux_lemma =>
                have d24 : decide ((24 : Int) < (ps.length : Int) + 1) = false := decide_eq_false (by omega)
                go_wp2_with (fail)
                go_roundg m'
                case measure => omega
                case rel => exact ⟨a + 1 + q, ps ++ [⟨kb, t, 0⟩], false, HRF.out.bad3 false, by (repeat (first | exact Below.refl _ _ | assumption | apply Below.drew | apply below_drewN | (refine Below.alloc ?_ (by first | omega | (simp; done) | (simp; omega)) _) | (refine Below.setCell ?_ (by first | omega | (simp; done) | (simp; omega)) _))), by omega, by have := HI.mn; omega, by have := HI.ha; omega, by rw [HCAT.out]; have := HI.hl; omega, by rw [HE.out, HQ.out, decide_eq_false h24]⟩
        · as_aux_lemma =>
            have dq : decide ((0 : Int) < (q : Int)) = false := decide_eq_false (by omega)
            go_wp2_with (fail)
            obtain ⟨X, hX⟩ : ∃ X, X = w6.setCell ⟨g, 1, none⟩ (.int .i64 ((a : Int) + 1 + (q : Int))) := ⟨_, rfl⟩
            have hkX : Blk X g 71 #[.string s, .int .i64 ((a : Int) + 1 + (q : Int)), .slice A ps.length c, .bool false] := by rw [hX]; exact hk6.set41 _
            have hpX : Blk X (W.heap.size + 1) 45 #[.int .i64 kb, .int .i64 1, .int .i64 0] := by rw [hX]; exact hp6.far (p := ⟨g, 1, none⟩) hgp' _
            have hoX : OwnC X lo W.heap.size 45 3 A ps.length c (cellsPiece ps) := by rw [hX]; exact ho6.farT hk6 t2 1 _
            have hbX : Below lo w X := by rw [hX]; (repeat (first | exact Below.refl _ _ | assumption | apply Below.drew | apply below_drewN | (refine Below.alloc ?_ (by first | omega | (simp; done) | (simp; omega)) _) | (refine Below.setCell ?_ (by first | omega | (simp; done) | (simp; omega)) _)))
            have hzX : W.heap.size + 2 ≤ X.heap.size := by rw [hX]; simp; omega
            have HQ : Hid ((if 0 < q then t else 1) = 1) := Lib.hid (if_neg hq)
            have HX := Lib.hid hX
            rw [← hX]
            clear hX r0 r1 r2 r3 p0 p1 p2 f1 f3 fp
            have hk9 := hkX.c4
            have hp9 := hpX.c3
            (refine wp_region_pops 3 (S := (fun W' => W'.cell? ⟨g, 2, none⟩ = some (.slice A ps.length c) ∧ W'.cell? ⟨W.heap.size + 1, 0, none⟩ = some (.int .i64 kb) ∧ W'.cell? ⟨W.heap.size + 1, 1, none⟩ = some (.int .i64 1) ∧ W'.cell? ⟨W.heap.size + 1, 2, none⟩ = some (.int .i64 0))) (pre := ?_) (T := ?_) (n := ?_) (by kernel_rfl) (by kernel_rfl) ?_ ?_ ?_ ?_ (fun hHeld => ?_); rotate_left 3; (focus (simp only [pops, List.pop_toArray, List.dropLast_cons_cons, List.dropLast_singleton]; rfl)); (focus (simp only [tailOf, List.pop_toArray, List.dropLast_cons_cons, List.dropLast_singleton, List.back?_toArray, List.getLast?_cons_cons, List.getLast?_singleton, Option.toList_some, List.nil_append, List.cons_append]; rfl)); (focus rfl); (focus (exact ⟨hk9.2.2.1, hp9.1, hp9.2.1, hp9.2.2⟩)))
            ((refine wpAnyH_take (i := 0) (v := ?_) rfl (by kernel_rfl) (by kernel_rfl) (by kernel_rfl) (fun _ _ _ h => h) (Or.inl ⟨by rfl, ?_⟩) (by assumption) ?_; rotate_left; (focus (intro W hSw; (try dsimp only at hSw); go_simp; try (with_reducible rfl)))); (try simp only [List.getElem_toArray, List.getElem_cons_zero, Act.put, List.setIfInBounds_toArray, List.set_cons_zero, List.set_cons_succ]); (refine wpAnyH_take (i := 1) (v := ?_) rfl (by kernel_rfl) (by kernel_rfl) (by kernel_rfl) (fun _ _ _ h => h) (Or.inl ⟨by rfl, ?_⟩) (by assumption) ?_; rotate_left; (focus (intro W hSw; (try dsimp only at hSw); go_simp; try (with_reducible rfl)))); (try simp only [List.getElem_toArray, List.getElem_cons_zero, List.getElem_cons_succ, Act.put, List.setIfInBounds_toArray, List.set_cons_zero, List.set_cons_succ]); (refine wpAnyH_take (i := 2) (v := ?_) rfl (by kernel_rfl) (by kernel_rfl) (by kernel_rfl) (fun _ _ _ h => h) (Or.inl ⟨by rfl, ?_⟩) (by assumption) ?_; rotate_left; (focus (intro W hSw; (try dsimp only at hSw); go_simp; try (with_reducible rfl)))); (try simp only [List.getElem_toArray, List.getElem_cons_zero, List.getElem_cons_succ, Act.put, List.setIfInBounds_toArray, List.set_cons_zero, List.set_cons_succ]); (refine wpAnyH_take (i := 3) (v := ?_) rfl (by kernel_rfl) (by kernel_rfl) (by kernel_rfl) (fun _ _ _ h => h) (Or.inl ⟨by rfl, ?_⟩) (by assumption) ?_; rotate_left; (focus (intro W hSw; (try dsimp only at hSw); go_simp; try (with_reducible rfl)))); (try simp only [List.getElem_toArray, List.getElem_cons_zero, List.getElem_cons_succ, Act.put, List.setIfInBounds_toArray, List.set_cons_zero, List.set_cons_succ]); (refine wpAnyH_take (i := 4) (v := ?_) rfl (by kernel_rfl) (by kernel_rfl) (by kernel_rfl) (fun _ _ _ h => h) (Or.inl ⟨by rfl, ?_⟩) (by assumption) ?_; rotate_left; (focus (intro W hSw; (try dsimp only at hSw); go_simp; try (with_reducible rfl)))); (try simp only [List.getElem_toArray, List.getElem_cons_zero, List.getElem_cons_succ, Act.put, List.setIfInBounds_toArray, List.set_cons_zero, List.set_cons_succ]); (refine wpAnyH_take (i := 5) (v := ?_) rfl (by kernel_rfl) (by kernel_rfl) (by kernel_rfl) (fun _ _ _ h => h) (Or.inl ⟨by rfl, ?_⟩) (by assumption) ?_; rotate_left; (focus (intro W hSw; (try dsimp only at hSw); go_simp; try (with_reducible rfl)))); (try simp only [List.getElem_toArray, List.getElem_cons_zero, List.getElem_cons_succ, Act.put, List.setIfInBounds_toArray, List.set_cons_zero, List.set_cons_succ]))
            (refine wpAnyH_ready (rs := [6]) (by kernel_rfl) (by simp) ?_; refine AllReadyH.cons rfl (fun K hK => ?_) AllReadyH.nil)
            go_simp
            refine hK.out _ _ ⟨(hkX.drew1.alloc _).c4.2.2.1, (hpX.drew1.alloc _).c3.1, (hpX.drew1.alloc _).c3.2.1, (hpX.drew1.alloc _).c3.2.2⟩ (fun hHeld => ?_)
            clear hK K
            (try simp only [List.getElem_toArray, List.getElem_cons_zero, List.getElem_cons_succ, Act.put, List.setIfInBounds_toArray, List.set_cons_zero, List.set_cons_succ])
            have hlz : lo ≤ ((World.drew X).alloc (.cells #[.int .i64 kb, .int .i64 1, .int .i64 0] 45)).heap.size := by have := HI.r.hlo; have e : (World.drew X).heap.size = X.heap.size := rfl; rw [World.size_alloc, e]; omega
            have olit := OwnC.news (OwnC.lit (w := World.drew X) (lo := lo) (n := 1) 45 3 #[.int .i64 kb, .int .i64 1, .int .i64 0] (by have := HI.r.hlo; have e : (World.drew X).heap.size = X.heap.size := rfl; omega) (by decide) rfl)
            (refine wpAnyH_ready (rs := [7]) (by kernel_rfl) (by simp) ?_; refine AllReadyH.cons rfl (fun K hK => ?_) AllReadyH.nil)
            refine wp_appendC_at ((World.drew X).alloc (.cells #[.int .i64 kb, .int .i64 1, .int .i64 0] 45)) (.tmp 78) (.tmp 80) _ rfl 45 iP _ 3 24 Tryd.underlying30 hi0 hz0 hz1' hz2 rfl (by decide) (by simp [Act.eval]) ((OwnC.drew1 hoX).alloc _) hlz (some ⟨X.heap.size, 0, none⟩) 1 1 [.int .i64 kb, .int .i64 1, .int .i64 0] (by simp [Act.eval]) (by simp) olit (by simp [Value.oneCell']) (by unfold maxLen; omega) (by omega) ?_
            intro A9 c9 w8 ho8 hg8 hb8 _
            have hk8 := (hkX.drew1.alloc (.cells #[.int .i64 kb, .int .i64 1, .int .i64 0] 45)).grownT ((OwnC.drew1 hoX).alloc (.cells #[.int .i64 kb, .int .i64 1, .int .i64 0] 45)) t2 hg8
            have hp8 := (hpX.drew1.alloc (.cells #[.int .i64 kb, .int .i64 1, .int .i64 0] 45)).grownO hoX hg8 (by omega)
            refine hK.out _ _ ⟨hk8.c4.2.2.1, hp8.c3.1, hp8.c3.2.1, hp8.c3.2.2⟩ (fun hHeld => ?_)
            clear hK K
            (try simp only [List.getElem_toArray, List.getElem_cons_zero, List.getElem_cons_succ, Act.put, List.setIfInBounds_toArray, List.set_cons_zero, List.set_cons_succ])
            (refine wpAnyH_done (by kernel_rfl) ?_ _; change wpList _ _ _ _ _ _)
            obtain ⟨v0, v1, v2, v3⟩ := hk8.c4
            have e2 := hk8.frozen 2
            have e3 := hk8.frozen 3
            have hcat : (ps ++ [(⟨kb, 1, 0⟩ : PieceD)]).length = ps.length + 1 := by simp
            have hRF : Rd s lo g (w8.setCell ⟨g, 2, none⟩ (.slice A9 (ps.length + 1) c9)) (a + 1 + q) (ps ++ [⟨kb, 1, 0⟩]) false := by
              refine ⟨⟨A9, c9, ?_, ?_⟩, HI.r.hlo, hqle, by rw [hcat]; omega⟩
              · rw [hcat, show ((a + 1 + q : Nat) : Int) = (a : Int) + 1 + (q : Int) by omega]
                exact hk8.set42 _
              · rw [hcat, cellsPiece_append]
                exact (OwnC.farT ho8 hk8 t2 2 _).mono (Nat.le_refl _) (by simp)
            have HCAT := Lib.hid hcat; clear hcat
            have HRF := Lib.hid hRF; clear hRF
            have hb9 : Below lo w w8 := (Below.alloc (Below.drew hbX) (by have := HI.r.hlo; have e : (World.drew X).heap.size = X.heap.size := rfl; omega) _).trans hb8
            clear hHeld
            by_cases h24 : 24 < ps.length + 1
            · as_aux_lemma =>
                have d24 : decide ((24 : Int) < (ps.length : Int) + 1) = true := decide_eq_true (by omega)
                go_wp2_with (fail)
                go_roundg m'
                case measure => omega
                case rel => exact ⟨a + 1 + q, ps ++ [⟨kb, 1, 0⟩], true, HRF.out.bad3 true, by (repeat (first | exact Below.refl _ _ | assumption | apply Below.drew | apply below_drewN | (refine Below.alloc ?_ (by first | omega | (simp; done) | (simp; omega)) _) | (refine Below.setCell ?_ (by first | omega | (simp; done) | (simp; omega)) _))), by omega, by have := HI.mn; omega, by have := HI.ha; omega, by rw [HCAT.out]; have := HI.hl; omega, by rw [HE.out, HQ.out, decide_eq_true h24]⟩
            · as_aux_lemma =>
                have d24 : decide ((24 : Int) < (ps.length : Int) + 1) = false := decide_eq_false (by omega)
                go_wp2_with (fail)
                go_roundg m'
                case measure => omega
                case rel => exact ⟨a + 1 + q, ps ++ [⟨kb, 1, 0⟩], false, HRF.out.bad3 false, by (repeat (first | exact Below.refl _ _ | assumption | apply Below.drew | apply below_drewN | (refine Below.alloc ?_ (by first | omega | (simp; done) | (simp; omega)) _) | (refine Below.setCell ?_ (by first | omega | (simp; done) | (simp; omega)) _))), by omega, by have := HI.mn; omega, by have := HI.ha; omega, by rw [HCAT.out]; have := HI.hl; omega, by rw [HE.out, HQ.out, decide_eq_false h24]⟩
    · have d1 : decide ((a : Int) < (s.size : Int)) = false := decide_eq_false (by omega)
      go_wp2_with (fail)
      go_quiet (fail)
      go_wp2_with (fail)
      refine bodyPost_end (results_none rfl _ _ _) rfl ?_
      exact (HI.drewN _).done (.inl (by omega)) rfl

end Go.Proofs.YtcgbogofmdjddaaDoor
