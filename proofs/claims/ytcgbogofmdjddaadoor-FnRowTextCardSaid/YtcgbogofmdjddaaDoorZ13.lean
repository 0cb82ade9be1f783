/- Steps of the proof, joined from several texts: UD. -/
import Derived.Test.YtcgbogofmdjddaaDoorZ11
import Derived.Test.YtcgbogofmdjddaaDoorZ12

/- Reading pieces, the program's function. -/
namespace Go.Proofs.YtcgbogofmdjddaaDoor
open Go Go.RowKit

/-- The first part of an owned slice. -/
theorem OwnC.prefix {w : World} {lo hi : Nat} {e : TypeId} {sz : Nat} {A : Option Addr} {n c m : Nat} {cs : List Value} (h : OwnC w lo hi e sz A n c cs) (hm : m ≤ n) : OwnC w lo hi e sz A m c (cs.take (m * sz)) := by
  have hmn := Nat.mul_le_mul_right sz hm
  refine ⟨⟨?_, ?_⟩, h.lt⟩
  · rw [List.length_take, h.len]; omega
  · rcases h.form with ⟨rfl, rfl, rfl, rfl⟩ | ⟨g, cur, rfl, h1, h2, h3, h4, h5, h6, h7⟩
    · obtain rfl : m = 0 := by omega
      exact .inl ⟨rfl, rfl⟩
    · refine .inr ⟨g, c, cur, rfl, h1, h3, by omega, h5, h6, ?_⟩
      rw [← h7, List.take_take, Nat.min_eq_left hmn]
theorem cellsPiece_set1 {ps : List PieceD} {g : Nat} {p : PieceD} (h : ps[g]? = some p) (v : Int) : (cellsPiece ps).set (g * 3 + 1) (.int .i64 v) = cellsPiece (ps.set g ⟨p.kind, v, p.len⟩) := by
  induction ps generalizing g with
  | nil => simp at h
  | cons q ps ih =>
    cases g with
    | zero => simp at h; subst h; simp [cellsPiece]
    | succ g =>
      have := ih (g := g) (by simpa using h)
      rw [List.set_cons_succ, cellsPiece, cellsPiece, ← this, show (g + 1) * 3 + 1 = (g * 3 + 1) + 3 by omega]
      rfl
theorem cellsPiece_set2 {ps : List PieceD} {g : Nat} {p : PieceD} (h : ps[g]? = some p) (v : Int) : (cellsPiece ps).set (g * 3 + 2) (.int .i64 v) = cellsPiece (ps.set g ⟨p.kind, p.times, v⟩) := by
  induction ps generalizing g with
  | nil => simp at h
  | cons q ps ih =>
    cases g with
    | zero => simp at h; subst h; simp [cellsPiece]
    | succ g =>
      have := ih (g := g) (by simpa using h)
      rw [List.set_cons_succ, cellsPiece, cellsPiece, ← this, show (g + 1) * 3 + 2 = (g * 3 + 2) + 3 by omega]
      rfl
theorem closeP_set {ps : List PieceD} {g : Nat} {p : PieceD} (h : ps[g]? = some p) (t : Int) : closeP ps g t = (ps.set g ⟨p.kind, p.times, (ps.length : Int) - 1 - g⟩).set g ⟨p.kind, t, (ps.length : Int) - 1 - g⟩ := by
  unfold closeP
  rw [List.set_set]
  generalize (ps.length : Int) - 1 - (g : Int) = v
  induction ps generalizing g with
  | nil => simp at h
  | cons q ps ih =>
    cases g with
    | zero => simp at h; subst h; rfl
    | succ g => rw [List.modify_succ_cons, List.set_cons_succ, ih (by simpa using h)]
theorem closeP_cells {ps : List PieceD} {g : Nat} {p : PieceD} (h : ps[g]? = some p) (t : Int) : ((cellsPiece ps).set (g * 3 + 2) (.int .i64 ((ps.length : Int) - 1 - g))).set (g * 3 + 1) (.int .i64 t) = cellsPiece (closeP ps g t) := by
  have hlt := (List.getElem?_eq_some_iff.1 h).1
  rw [cellsPiece_set2 h, cellsPiece_set1 (p := ⟨p.kind, p.times, (ps.length : Int) - 1 - g⟩) (by simp [hlt]), closeP_set h]
def idxs (gs : List Nat) : List Value := gs.map fun (g : Nat) => Value.int .i64 (g : Int)

theorem info_int : (Tryd.prog.info? 3).map (fun i => (i.zero, i.size, i.bytes)) = some (some (.int .i64 0), 1, 8) := by kernel_rfl
/-- What the loop of ReadPieces keeps. -/
structure RdInv (s : ByteArray) (w wr : World) (k : Nat) (A : Option Addr) (c : Nat) (out : List PieceD) (B : Option Addr) (d : Nat) (gs : List Nat) : Prop where
  o : OwnC wr w.heap.size wr.heap.size 45 3 A out.length c (cellsPiece out)
  g : OwnC wr w.heap.size wr.heap.size 3 1 B gs.length d (idxs gs)
  b : Below w.heap.size w wr
  l : out.length ≤ 24
  h : gs.length ≤ out.length
  i : ∀ q ∈ gs, q < out.length
  e : rdI s.data.toList [] [] = rdI (s.data.toList.drop k) out gs
def rdEnd (s : ByteArray) (w : World) (e : Ending) (w' : World) : Prop := ∃ A' c', e = .returned (.tuple #[.slice A' (rpP s).length c', .bool (rpOk s)]) ∧ OwnPiece w' w.heap.size w'.heap.size A' c' (rpP s) ∧ Below w.heap.size w w'
theorem rd_none {s : ByteArray} (h : readI s = none) : rpP s = [] ∧ rpOk s = false := by
  rw [rpP, rpOk, h]; exact ⟨rfl, rfl⟩
theorem rdEnd_none {s : ByteArray} {w w' : World} (h : rpP s = [] ∧ rpOk s = false) (hb : Below w.heap.size w w') : rdEnd s w (.returned (.tuple #[.slice none 0 0, .bool false])) w' := by
  refine ⟨none, 0, by rw [h.1, h.2]; rfl, ?_, hb⟩
  rw [h.1]
  exact OwnC.nil _ _ _ _ _
theorem readI_stop {s : ByteArray} (h : rdI s.data.toList [] [] = none) : readI s = none := by unfold readI; rw [h]
theorem readI_open {s : ByteArray} {out : List PieceD} {gs : List Nat} (h : rdI s.data.toList [] [] = some (out, gs)) (hg : gs ≠ []) : readI s = none := by
  unfold readI
  rw [h]
  cases gs with
  | nil => exact absurd rfl hg
  | cons => rfl
theorem readI_last {s : ByteArray} {out : List PieceD} (h : rdI s.data.toList [] [] = some (out, [])) : readI s = if goodRd s out then some out else none := by unfold readI; rw [h]
theorem byte_is {b n : UInt8} {z : Int} (hz : (n.toNat : Int) = z) : (((b.toNat : Int)) == z) = decide (b = n) := by
  rw [Bool.eq_iff_iff]
  simp only [beq_iff_eq, decide_eq_true_eq]
  constructor
  · intro h
    apply UInt8.toNat_inj.1
    omega
  · intro h
    rw [h, hz]
set_option maxHeartbeats 4000000 in
set_option maxRecDepth 10000 in
theorem impl_ReadPieces (s : ByteArray) (w : World) (hl : s.size ≤ 1000000000) :
    Calls Tryd.prog 15 #[.string s] w (rdEnd s w) := by
  obtain ⟨iP, hi0, hz0, hz1, hz2⟩ := info_parts info_Piece
  obtain ⟨iI, hi1, hy0, hy1, hy2⟩ := info_parts info_int
  have t1 : (45 : TypeId) ≠ 3 := by decide
  have t2 : (3 : TypeId) ≠ 45 := by decide
  go_enter Tryd.func15, Tryd.ntmps15
  go_wp2_with (fail)
  go_loopw [4, 5, 6] (fun ov gv kv wr => ∃ (k : Nat) (A : Option Addr) (c : Nat) (out : List PieceD) (B : Option Addr) (d : Nat) (gs : List Nat), k ≤ s.size ∧ ov = .slice A out.length c ∧ gv = .slice B gs.length d ∧ kv = .int .i64 (k : Int) ∧ RdInv s w wr k A c out B d gs) (fun _ _ kv _ => s.size - (intOf kv).toNat)
  case atStart =>
    refine ⟨0, some ⟨w.heap.size, 0, none⟩, 0, [], some ⟨w.heap.size + 1, 0, none⟩, 0, [], Nat.zero_le _, rfl, rfl, rfl, ?_⟩
    refine ⟨?_, ?_, by (repeat (first | exact Below.refl _ _ | assumption | apply Below.drew | apply below_drewN | (refine Below.alloc ?_ (by first | omega | (simp; done) | (simp; omega)) _) | (refine Below.setCell ?_ (by first | omega | (simp; done) | (simp; omega)) _))), by simp, by simp, by simp, by simp⟩
    · exact ((OwnC.lit (w := w) (n := 0) 45 3 #[] (Nat.le_refl _) (Nat.zero_le _) rfl).alloc _).mono (Nat.le_refl _) (by simp)
    · refine OwnC.mono (lo := w.heap.size) (hi := (w.alloc (.cells #[] 45)).heap.size + 1) ?_ (Nat.le_refl _) (by simp)
      have := OwnC.lit (w := w.alloc (.cells #[] 45)) (lo := w.heap.size) (n := 0) 3 1 #[] (by simp) (Nat.zero_le _) rfl
      simp only [World.size_alloc] at this ⊢
      exact this
  case round =>
    obtain ⟨k, A, c, out, B, d, gs, hk, rfl, rfl, rfl, HI⟩ := hrel
    have hb := HI.b
    have hzs := hb.size
    have h24 := HI.l
    have hgl := HI.h
    by_cases hlt : k < s.size
    · have hu := (s[k]'hlt).toNat_lt
      by_cases hb32 : s[k]'hlt = 32
      · have e32 : (((s[k]'hlt).toNat : Int) == 32) = true := by rw [byte_is (n := 32) (z := 32) rfl, decide_eq_true hb32]
        have HE : Hid (rdI s.data.toList [] [] = rdI (s.data.toList.drop (k + 1)) out gs) := Lib.hid (by rw [HI.e, drop_byte hlt, hb32, rdI_space])
        clear hb32
        go_wp2_with (fail)
        go_roundw
        case rel => exact ⟨k + 1, A, c, out, B, d, gs, by omega, rfl, rfl, by go_num, { HI with e := HE.out }⟩
        case measure => simp [intOf]; omega
      have e32 : (((s[k]'hlt).toNat : Int) == 32) = false := by rw [byte_is (n := 32) (z := 32) rfl, decide_eq_false hb32]
      by_cases hb40 : s[k]'hlt = 40
      · have e40 : (((s[k]'hlt).toNat : Int) == 40) = true := by rw [byte_is (n := 40) (z := 40) rfl, decide_eq_true hb40]
        have HE : Hid ((out.length + 1 ≤ 24 → rdI s.data.toList [] [] = rdI (s.data.toList.drop (k + 1)) (out ++ [⟨12, 0, 0⟩]) (gs ++ [out.length])) ∧ (¬ out.length + 1 ≤ 24 → readI s = none)) := Lib.hid (by
          refine ⟨fun h => ?_, fun h => readI_stop ?_⟩
          · rw [HI.e, drop_byte hlt, hb40, rdI_open h]
          · rw [HI.e, drop_byte hlt, hb40, rdI_full h])
        clear hb40 hb32
        have ho := HI.o
        have hg := HI.g
        go_wp2_with (first
          | (at_builtin; refine wpList_append1 wr [.int .i64 (out.length : Int)] _ rfl (.tmp 43) (.tmp 46) _ rfl 3 iI _ 1 8 Tryd.underlying74 hi1 hy0 hy1 hy2 rfl (by decide) rfl hg hzs 1 rfl rfl (by simp [Value.oneCell']) (by omega) (by decide) ?_; intro B2 d2 w2 hg2 gr2 bl2 z2; have ho2 := ((ho.alloc (.cells #[.int .i64 (out.length : Int)] 3)).grownT (hg.alloc (.cells #[.int .i64 (out.length : Int)] 3)) t1 gr2).mono (Nat.le_refl _) (Nat.le_of_lt z2); have hz2' : w.heap.size ≤ w2.heap.size := Nat.le_trans hzs (Nat.le_of_lt z2); clear gr2)
          | (at_builtin; refine wpList_append1 w2 [.int .i64 12, .int .i64 0, .int .i64 0] _ rfl (.tmp 48) (.tmp 50) _ rfl 45 iP _ 3 24 Tryd.underlying30 hi0 hz0 hz1 hz2 rfl (by decide) rfl ho2 hz2' 1 rfl rfl (by simp [Value.oneCell']) (by omega) (by decide) ?_; intro A3 c3 w3 ho3 gr3 bl3 z3))
        · go_ret2
          exact rdEnd_none (rd_none (HE.out.2 (by omega))) (hb.trans (bl2.trans bl3))
        · go_roundw
          case rel =>
            have hg3 := ((hg2.alloc (.cells #[.int .i64 12, .int .i64 0, .int .i64 0] 45)).grownT (ho2.alloc (.cells #[.int .i64 12, .int .i64 0, .int .i64 0] 45)) t2 gr3).mono (Nat.le_refl _) (Nat.le_of_lt z3)
            refine ⟨k + 1, A3, c3, out ++ [⟨12, 0, 0⟩], B2, d2, gs ++ [out.length], by omega, by simp, by simp, by go_num, ?_, ?_, hb.trans (bl2.trans bl3), by simp; omega, by simp; omega, ?_, HE.out.1 (by omega)⟩
            · rw [List.length_append, cellsPiece_append]
              exact ho3
            · unfold idxs at hg3 ⊢
              rw [List.length_append, List.map_append]
              exact hg3
            · intro q hq
              rw [List.length_append]
              rcases List.mem_append.1 hq with hq | hq
              · have := HI.i q hq; omega
              · rw [List.mem_singleton.1 hq]; simp
          case measure => simp [intOf]; omega
      have e40 : (((s[k]'hlt).toNat : Int) == 40) = false := by rw [byte_is (n := 40) (z := 40) rfl, decide_eq_false hb40]
      by_cases hb41 : s[k]'hlt = 41
      · have e41 : (((s[k]'hlt).toNat : Int) == 41) = true := by rw [byte_is (n := 41) (z := 41) rfl, decide_eq_true hb41]
        have hnone : (gs = [] ∨ (s.data.toList.drop (k + 1)).head? ≠ some 42) → Hid (rpP s = [] ∧ rpOk s = false) := fun h => Lib.hid (rd_none (readI_stop (by rw [HI.e, drop_byte hlt, hb41, rdI_none h])))
        have hcl : ∀ gs' g l, gs = gs' ++ [g] → s.data.toList.drop (k + 1) = 42 :: l → rdI s.data.toList [] [] = rdI (l.drop (timesI 0 l).2) (closeP out g (timesI 0 l).1) gs' := by
          intro gs' g l h1 h2
          rw [HI.e, drop_byte hlt, hb41, h1, h2, rdI_close]
        have HCL := Lib.hid hcl; clear hcl
        clear hb40 hb32 hb41
        rcases List.eq_nil_or_concat gs with rfl | ⟨gs', g, rfl⟩
        · have HF := hnone (.inl rfl)
          clear hnone
          go_wp2_with (fail)
          go_ret2
          exact rdEnd_none HF.out hb
        rw [List.concat_eq_append] at *
        have hgn : (gs' ++ [g]).length = gs'.length + 1 := by simp
        have HG := HI.g
        have HGI := HI.i g (by simp)
        have HLEN := Lib.hid hgn
        rw [hgn] at hgl HG ⊢
        clear hgn
        have e0 : (((gs'.length : Int) + 1) == 0) = false := by rw [beq_eq_false_iff_ne]; omega
        by_cases hend : k + 1 = s.size
        · have HF := hnone (.inr (by rw [List.drop_eq_nil_of_le (by rw [← ba_size]; omega)]; simp))
          have ee : (((k : Int) + 1) == (s.size : Int)) = true := by rw [beq_iff_eq]; omega
          have HEND := Lib.hid hend
          clear hnone hend
          go_wp2_with (fail)
          go_ret2
          exact rdEnd_none HF.out hb
        have ee : (((k : Int) + 1) == (s.size : Int)) = false := by rw [beq_eq_false_iff_ne]; omega
        have hlt1 : k + 1 < s.size := by omega
        by_cases hb42 : s[k + 1]'hlt1 = 42
        · have e42 : (((s[k + 1]'hlt1).toNat : Int) != 42) = false := by rw [bne, byte_is (n := 42) (z := 42) rfl, decide_eq_true hb42]; rfl
          obtain ⟨t, q, hT⟩ : ∃ t q, timesI 0 (s.data.toList.drop (k + 2)) = (t, q) := ⟨_, _, rfl⟩
          have hqle : k + 2 + q ≤ s.size := by
            have := timesI_le 0 (s.data.toList.drop (k + 2))
            rw [hT, List.length_drop, ← ba_size] at this
            simp only at this
            omega
          have HE : Hid (rdI s.data.toList [] [] = rdI (s.data.toList.drop (k + 2 + q)) (closeP out g t) gs') := Lib.hid (by
            have := HCL.out gs' g (s.data.toList.drop (k + 2)) rfl (by rw [drop_byte hlt1, hb42])
            rw [hT, List.drop_drop] at this
            exact this)
          have HDG : Hid (∀ W, Calls Tryd.prog 50 #[.string s, .int .i64 ((k : Int) + 1 + 1), .int .i64 0] W fun e w' => e = .returned (.tuple #[.int .i64 t, .int .i64 ((k : Int) + 1 + 1 + (q : Int))]) ∧ W = w') := Lib.hid (fun W => by
            have := impl_digitsAt s (k + 2) 0 t q W hl (by omega) hT
            rw [show ((k + 2 : Nat) : Int) = (k : Int) + 1 + 1 by omega] at this
            exact this)
          obtain ⟨p, hp⟩ : ∃ p, out[g]? = some p := ⟨_, List.getElem?_eq_getElem HGI⟩
          have HP := Lib.hid hp
          obtain ⟨e0', e1', e2'⟩ := cellsPiece_at hp
          have hcl := cellsPiece_length out
          have HO := HI.o
          obtain ⟨gB, rfl, _, hgB, qB, _⟩ := HG.cell (j := gs'.length) (by simp [idxs])
          have hqB : (idxs (gs' ++ [g]))[gs'.length]'(by simp [idxs]) = .int .i64 (g : Int) := by simp [idxs]
          rw [hqB] at qB
          obtain ⟨gA, rfl, _, hgA, q1, f1⟩ := HO.cell (j := g * 3 + 1) (by omega)
          obtain ⟨_, hA, _, _, q2, f2⟩ := HO.cell (j := g * 3 + 2) (by omega)
          injection hA with hA
          injection hA with hA
          subst hA
          rw [List.getElem?_eq_getElem (by omega)] at e1' e2'
          injection e1' with e1'
          injection e2' with e2'
          rw [e1'] at q1
          rw [e2'] at q2
          have hne : gA ≠ gB := by
            rcases HO.form with ⟨h, _⟩ | ⟨_, cu, h, _, _, h3, _⟩
            · cases h
            · rcases HG.form with ⟨h', _⟩ | ⟨_, cu', h', _, _, h3', _⟩
              · cases h'
              · injection h with h; injection h with h; injection h' with h'; injection h' with h'
                subst h h'
                intro e
                subst e
                rw [h3] at h3'
                injection h3' with h3'
                injection h3' with _ h5
                exact t1 h5
          have m1 : (0 : Int) ≤ (k : Int) + 1 := by omega
          have m2 : (k : Int) + 1 < (s.size : Int) := by omega
          have m3 : (0 : Int) ≤ (g : Int) := by omega
          have m4 : (g : Int) < (out.length : Int) := by omega
          have m5 : (gs'.length : Int) < (gs'.length : Int) + 1 := by omega
          have m6 : gs'.length ≤ d := by have := HG.cap; omega
          clear hnone hend hb42 hT hp e0' e1' e2' hcl hqB HCL
          go_wp2_with (go_at_call 50; refine (HDG.out _).mono ?_; rintro e w' ⟨rfl, rfl⟩)
          go_roundw
          case rel =>
            have s1 := HO.store (j := g * 3 + 2) (.int .i64 ((out.length : Int) - 1 - (g : Int)))
            have s2 := s1.1.store (j := g * 3 + 1) (.int .i64 t)
            rw [closeP_cells HP.out] at s2
            have hp1 := HG.prefix (m := gs'.length) (by omega)
            have hp2 : (idxs (gs' ++ [g])).take (gs'.length * 1) = idxs gs' := by simp [idxs]
            rw [hp2] at hp1
            have g2 := (hp1.grownT HO t2 s1.2).grownT s1.1 t2 s2.2
            have hlc := closeP_length out g t
            refine ⟨k + 2 + q, _, c, closeP out g t, _, d, gs', hqle, by rw [hlc], rfl, by rw [show ((k + 2 + q : Nat) : Int) = (k : Int) + 1 + 1 + (q : Int) by omega], ?_, ?_, ?_, by rw [hlc]; exact h24, by rw [hlc]; omega, ?_, HE.out⟩
            · rw [hlc]
              exact s2.1.mono (Nat.le_refl _) (by simp)
            · exact g2.mono (Nat.le_refl _) (by simp)
            · (repeat (first | exact Below.refl _ _ | assumption | apply Below.drew | apply below_drewN | (refine Below.alloc ?_ (by first | omega | (simp; done) | (simp; omega)) _) | (refine Below.setCell ?_ (by first | omega | (simp; done) | (simp; omega)) _)))
            · intro x hx
              rw [hlc]
              exact HI.i x (by simp [hx])
          case measure => simp [intOf]; omega
        · have e42 : (((s[k + 1]'hlt1).toNat : Int) != 42) = true := by rw [bne, byte_is (n := 42) (z := 42) rfl, decide_eq_false hb42]; rfl
          have HF := hnone (.inr (by rw [drop_byte hlt1]; simpa using hb42))
          clear hnone hend hb42
          have m1 : (0 : Int) ≤ (k : Int) + 1 := by omega
          have m2 : (k : Int) + 1 < (s.size : Int) := by omega
          go_wp2_with (fail)
          go_ret2
          exact rdEnd_none HF.out hb
      · have e41 : (((s[k]'hlt).toNat : Int) == 41) = false := by rw [byte_is (n := 41) (z := 41) rfl, decide_eq_false hb41]
        obtain ⟨t, q, hT⟩ : ∃ t q, timesI 1 (s.data.toList.drop (k + 1)) = (t, q) := ⟨_, _, rfl⟩
        have hqle : k + 1 + q ≤ s.size := by
          have := timesI_le 1 (s.data.toList.drop (k + 1))
          rw [hT, List.length_drop, ← ba_size] at this
          simp only at this
          omega
        have HE : Hid ((out.length + 1 ≤ 24 → rdI s.data.toList [] [] = rdI (s.data.toList.drop (k + 1 + q)) (out ++ [⟨kindB (s[k]'hlt), t, 0⟩]) gs) ∧ (¬ out.length + 1 ≤ 24 → readI s = none)) := Lib.hid (by
          refine ⟨fun h => ?_, fun h => readI_stop ?_⟩
          · rw [HI.e, drop_byte hlt, rdI_plain hb32 hb40 hb41 h, hT, List.drop_drop]
          · rw [HI.e, drop_byte hlt, rdI_over hb32 hb40 hb41 h])
        have HDG : Hid (∀ W, Calls Tryd.prog 50 #[.string s, .int .i64 ((k : Int) + 1), .int .i64 1] W fun e w' => e = .returned (.tuple #[.int .i64 t, .int .i64 ((k : Int) + 1 + (q : Int))]) ∧ W = w') := Lib.hid (fun W => by
          have := impl_digitsAt s (k + 1) 1 t q W hl (by omega) hT
          rw [show ((k + 1 : Nat) : Int) = (k : Int) + 1 by omega] at this
          exact this)
        have HKD : Hid (∀ W, Calls Tryd.prog 51 #[.string (Utf8.encode ((s[k]'hlt).toNat : Int))] W fun e w' => e = .returned (.int .i64 (kindB (s[k]'hlt))) ∧ W = w') := Lib.hid (fun W => impl_KindOf_rune _ W)
        generalize kindB (s[k]'hlt) = kb at HE HKD
        have wi : IntKind.i32.wrap ((s[k]'hlt).toNat : Int) = ((s[k]'hlt).toNat : Int) := IntWalk.i32_in _ ⟨by omega, by omega⟩
        clear hb32 hb40 hb41 hT
        have ho := HI.o.alloc (.cells #[.int .i64 kb, .int .i64 t, .int .i64 0] 45)
        have hg := HI.g.alloc (.cells #[.int .i64 kb, .int .i64 t, .int .i64 0] 45)
        have hlo : w.heap.size ≤ (wr.alloc (.cells #[.int .i64 kb, .int .i64 t, .int .i64 0] 45)).heap.size := by simp; omega
        have hbA : Below w.heap.size w (wr.alloc (.cells #[.int .i64 kb, .int .i64 t, .int .i64 0] 45)) := by (repeat (first | exact Below.refl _ _ | assumption | apply Below.drew | apply below_drewN | (refine Below.alloc ?_ (by first | omega | (simp; done) | (simp; omega)) _) | (refine Below.setCell ?_ (by first | omega | (simp; done) | (simp; omega)) _)))
        go_wp2_with (first
          | (go_at_call 51; refine (HKD.out _).mono ?_; rintro e w' ⟨rfl, rfl⟩)
          | (go_at_call 50; refine (HDG.out _).mono ?_; rintro e w' ⟨rfl, rfl⟩)
          | (at_builtin; refine wpList_append1 (wr.alloc (.cells #[.int .i64 kb, .int .i64 t, .int .i64 0] 45)) [.int .i64 kb, .int .i64 t, .int .i64 0] _ rfl (.tmp 33) (.tmp 35) _ rfl 45 iP _ 3 24 Tryd.underlying30 hi0 hz0 hz1 hz2 rfl (by decide) rfl ho hlo 1 (by simp; rfl) rfl (by simp [Value.oneCell']) (by omega) (by decide) ?_; intro A3 c3 w3 ho3 gr3 bl3 z3))
        · go_ret2
          exact rdEnd_none (rd_none (HE.out.2 (by omega))) (hbA.trans bl3)
        · go_roundw
          case rel =>
            have hg3 := ((hg.alloc (.cells #[.int .i64 kb, .int .i64 t, .int .i64 0] 45)).grownT (ho.alloc (.cells #[.int .i64 kb, .int .i64 t, .int .i64 0] 45)) t2 gr3).mono (hi' := w3.heap.size) (Nat.le_refl _) (by simp at z3; omega)
            refine ⟨k + 1 + q, A3, c3, out ++ [⟨kb, t, 0⟩], B, d, gs, hqle, by simp, rfl, by rw [show ((k + 1 + q : Nat) : Int) = (k : Int) + 1 + (q : Int) by omega], ?_, hg3, hbA.trans bl3, by simp; omega, by simp; omega, ?_, HE.out.1 (by omega)⟩
            · rw [List.length_append, cellsPiece_append]
              exact ho3
            · intro x hx
              have := HI.i x hx
              simp
              omega
          case measure => simp [intOf]; omega
    · obtain rfl : k = s.size := by omega
      have hE := HI.e
      rw [List.drop_eq_nil_of_le (by rw [← ba_size]; exact Nat.le_refl _), rdI_nil] at hE
      rcases List.eq_nil_or_concat gs with rfl | ⟨gs', g, rfl⟩
      · have hL := readI_last hE
        cases hv : piecesB out
        · have HF : Hid (rpP s = [] ∧ rpOk s = false) := Lib.hid (rd_none (by rw [hL, goodRd, hv]; rfl))
          clear hE hL
          go_wp2_with (go_at_call 52; refine (impl_ValidPieces out A c _ HI.o.pieces (by omega) HI.o.cap HI.o.capmax).mono ?_; rintro e w2 ⟨rfl, b2⟩; rw [hv])
          go_ret2
          exact rdEnd_none HF.out (hb.trans (b2.mono hzs))
        · obtain ⟨hgood, _⟩ := pieces_good hv
          have HL := Lib.hid hL
          clear hE hL
          go_wp2_with (first
            | (go_at_call 52; refine (impl_ValidPieces out A c _ HI.o.pieces (by omega) HI.o.cap HI.o.capmax).mono ?_; rintro e w2 ⟨rfl, b2⟩; rw [hv]; have hb2 := hb.trans (b2.mono hzs); have hz2 := b2.size; have ho2 := HI.o.below b2 (Nat.le_refl _))
            | (go_at_call 53; refine (impl_piecesText 200 100 (by omega) out A c 0 _ (by omega) (by omega) ho2.cap ho2.capmax ho2.pieces hgood).mono ?_; rintro e w3 ⟨rfl, b3⟩; have hb3 := hb2.trans (b3.mono (Nat.le_trans hzs hz2))))
          · have hne : txtP out ≠ s := by
              intro e
              rename_i hq
              rw [e] at hq
              simp at hq
            have HF := rd_none (s := s) (by rw [HL.out, goodRd, hv, decide_eq_false hne]; rfl)
            go_ret2
            exact rdEnd_none HF hb3
          · have heq : txtP out = s := by
              rename_i hq
              have h2 : (txtP out).toList = s.toList := by simpa using hq
              rw [ByteArray.toList_eq, ByteArray.toList_eq] at h2
              exact ByteArray.ext (Array.toList_inj.1 h2)
            have HR : readI s = some out := by rw [HL.out, goodRd, hv, decide_eq_true heq]; rfl
            have ho3 := ho2.below b3 (by omega)
            have hz3 := b3.size
            go_ret2
            refine ⟨A, c, by rw [rpP, rpOk, HR]; rfl, ?_, hb3⟩
            rw [rpP, HR]
            exact ho3.mono (Nat.le_refl _) (by omega)
      · rw [List.concat_eq_append] at *
        have HF : Hid (rpP s = [] ∧ rpOk s = false) := Lib.hid (rd_none (readI_open hE (by simp)))
        have hgn : (gs' ++ [g]).length = gs'.length + 1 := by simp
        rw [hgn]
        clear hgn hE
        have d0 : decide ((0 : Int) < (gs'.length : Int) + 1) = true := decide_eq_true (by omega)
        go_wp2_with (fail)
        go_ret2
        exact rdEnd_none HF.out hb

end Go.Proofs.YtcgbogofmdjddaaDoor
