/- Steps of the proof, joined from several texts: VC VD EE VE. -/
import Derived.Test.YtcgbogofmdjddaaDoorZ14
import Derived.Test.YtcgbogofmdjddaaDoorZ6
import Derived.Test.YtcgbogofmdjddaaDoorZ9

/- Reading pieces: the given side's function. -/
namespace Go.Proofs.YtcgbogofmdjddaaDoor
open Go Go.RowKit

theorem cellsPiece_one : ∀ ps : List PieceD, ∀ v ∈ cellsPiece ps, v.oneCell' = true
  | [] => fun v hv => by cases hv
  | p :: ps => fun v hv => by
    rw [cellsPiece] at hv
    rcases List.mem_cons.1 hv with rfl | hv
    · rfl
    · rcases List.mem_cons.1 hv with rfl | hv
      · rfl
      · rcases List.mem_cons.1 hv with rfl | hv
        · rfl
        · exact cellsPiece_one ps v hv
theorem readS_long {s : ByteArray} (h : 384 < s.size) : readS s = none := by rw [readS, if_pos h]
theorem readS_bad {s : ByteArray} {l : List UInt8} {ps : List PieceD} (h : rdS (s.size + 1) 0 s.data.toList [] false = (l, ps, true)) : readS s = none := by
  rw [readS]
  split
  · rfl
  · rw [h]
theorem readS_last {s : ByteArray} {l : List UInt8} {ps : List PieceD} (hl : ¬ 384 < s.size) (h : rdS (s.size + 1) 0 s.data.toList [] false = (l, ps, false)) : readS s = if goodRd s ps then some ps else none := by
  rw [readS, if_neg hl, h]

theorem rd_noneS {s : ByteArray} (h : readS s = none) : rpP s = [] ∧ rpOk s = false := rd_none (by rw [← readS_eq]; exact h)
set_option maxHeartbeats 4000000 in
set_option maxRecDepth 10000 in
theorem spec_ReadPieces (s : ByteArray) (w : World) (hl : s.size ≤ 1000000000) :
    Calls Tryd.prog 14 #[.string s] w (rdEnd s w) := by
  obtain ⟨iP, hi0, hz0, hz1', hz2⟩ := info_parts info_Piece
  by_cases h384 : 384 < s.size
  · have d0 : decide ((384 : Int) < (s.size : Int)) = true := decide_eq_true (by omega)
    have HF : Hid (rpP s = [] ∧ rpOk s = false) := Lib.hid (rd_noneS (readS_long h384))
    go_enter Tryd.func14, Tryd.ntmps14
    go_wp2_with (fail)
    go_ret2
    exact rdEnd_none HF.out (Below.refl _ _)
  · have d0 : decide ((384 : Int) < (s.size : Int)) = false := decide_eq_false (by omega)
    have hR0 : Rd s w.heap.size w.heap.size (w.alloc (.cells #[.string s, .int .i64 0, .slice none 0 0, .bool false] 71)) 0 [] false :=
      ⟨⟨none, 0, Blk.new _ _ _, OwnC.nil _ _ _ _ _⟩, Nat.le_refl _, Nat.zero_le _, Nat.zero_le _⟩
    have HC : Hid (Calls Tryd.prog 47 #[.pointer (some ⟨w.heap.size, 0, none⟩), .int .i64 0] (w.alloc (.cells #[.string s, .int .i64 0, .slice none 0 0, .bool false] 71)) (RowEnd s (s.size + 1) 0 0 [] w.heap.size w.heap.size (w.alloc (.cells #[.string s, .int .i64 0, .slice none 0 0, .bool false] 71)))) := Lib.hid (spec_row s (by omega) (s.size + 1) 0 0 [] w.heap.size w.heap.size _ (by omega) (by omega) hR0)
    have hbA : Below w.heap.size w (w.alloc (.cells #[.string s, .int .i64 0, .slice none 0 0, .bool false] 71)) := by (repeat (first | exact Below.refl _ _ | assumption | apply Below.drew | apply below_drewN | (refine Below.alloc ?_ (by first | omega | (simp; done) | (simp; omega)) _) | (refine Below.setCell ?_ (by first | omega | (simp; done) | (simp; omega)) _)))
    clear hR0
    go_enter Tryd.func14, Tryd.ntmps14
    go_wp2_with (fail)
    refine HC.out.mono ?_
    rintro e w1 ⟨rfl, a, ps, bad, _, _, hE, hR, hb⟩
    have hb1 := hbA.trans hb
    have hE0 : rdS (s.size + 1) 0 s.data.toList [] false = (s.data.toList.drop a, ps, bad) := by rw [← hE]; rfl
    obtain ⟨A, c, hk, ho⟩ := hR.ex
    obtain ⟨q0, q1, q2, q3⟩ := hk.c4
    have hpn := hR.hn
    have has := hR.ha
    have hpl : ps.length ≤ 1000 := by omega
    have hz1 := hk.lt
    cases bad with
    | true =>
      have HF : Hid (rpP s = [] ∧ rpOk s = false) := Lib.hid (rd_noneS (readS_bad hE0))
      clear hE hE0 hb
      go_wp2_with (fail)
      go_ret2
      exact rdEnd_none HF.out hb1
    | false =>
      have hL := readS_last h384 hE0
      rw [readS_eq] at hL
      cases hv : piecesB ps
      · have HF : Hid (rpP s = [] ∧ rpOk s = false) := Lib.hid (rd_none (by rw [hL, goodRd, hv]; rfl))
        clear hE hE0 hb hL
        go_wp2_with (go_at_call 48; refine (spec_l16Ok ps A c _ ho.pieces (by omega)).mono ?_; rintro e w2 ⟨rfl, b2⟩; rw [hv])
        go_ret2
        exact rdEnd_none HF.out (hb1.trans (b2.mono (by omega)))
      · obtain ⟨hgood, h24⟩ := pieces_good hv
        have HL := Lib.hid hL
        have hcap := ho.cap
        have hcm := ho.capmax
        clear hE hE0 hb hL
        by_cases heq : txtP ps = s
        · have HR : Hid (readI s = some ps) := Lib.hid (by rw [HL.out, goodRd, hv, decide_eq_true heq]; rfl)
          have hne : (!(txtP ps).toList == s.toList) = false := by rw [heq]; simp
          have HEQ := Lib.hid heq
          clear heq HL
          go_wp2_with (first
            | (go_at_call 48; refine (spec_l16Ok ps A c _ ho.pieces (by omega)).mono ?_; rintro e w2 ⟨rfl, b2⟩; rw [hv]; have hb2 := hb1.trans (b2.mono (Nat.le_of_lt hz1)); have hz2' := b2.size; have ho2 := ho.below b2 (Nat.le_refl _); have hk2 := hk.below b2 hz1; obtain ⟨x0, x1, x2, x3⟩ := hk2.c4)
            | (go_at_call 49; refine (spec_l16Text 200 ps A c 0 _ (by omega) (by omega) hcap hcm ho2.pieces hgood).mono ?_; rintro e w3 ⟨rfl, b3⟩; have hk3 := hk2.below b3 hk2.lt; obtain ⟨y0, y1, y2, y3⟩ := hk3.c4; have ho3 := OwnC.below ho2 b3 hz2'; have hb3 := hb2.trans (b3.mono (Nat.le_trans (Nat.le_of_lt hz1) hz2')); have hz3 := b3.size; have y2' := cell_alloc y2 (.cells #[] 45); have olit := OwnC.lit (w := w3) (lo := w.heap.size) (n := 0) 45 3 #[] (by omega) (by decide) rfl; have hzl : w.heap.size ≤ (w3.alloc (.cells #[] 45)).heap.size := by simp; omega)
            | (at_builtin; refine wpList_appendC (w3.alloc (.cells #[] 45)) rfl (.tmp 34) (.tmp 38) _ rfl 45 iP _ 3 24 Tryd.underlying30 hi0 hz0 hz1' hz2 rfl (by decide) rfl olit hzl A ps.length c (cellsPiece ps) rfl (cellsPiece_length ps) (OwnC.news (ho3.alloc _)) (cellsPiece_one ps) (by unfold maxLen; omega) (by omega) ?_; intro A9 c9 w8 ho8 hg8 hb8))
          go_ret2
          have hb8' : Below w.heap.size w w8 := (Below.alloc hb3 (by omega) _).trans hb8
          refine ⟨A9, c9, ?_, ?_, hb8'⟩
          · rw [rpP, rpOk, HR.out]; simp only [Option.getD_some, Option.isSome_some]; rw [← Nat.zero_add ps.length]; rfl
          · rw [rpP, HR.out]
            rw [Nat.zero_add] at ho8
            exact ho8
        · have HF : Hid (rpP s = [] ∧ rpOk s = false) := Lib.hid (rd_none (by rw [HL.out, goodRd, hv, decide_eq_false heq]; rfl))
          have hne : (!(txtP ps).toList == s.toList) = true := by
            have : (txtP ps).toList ≠ s.toList := by
              intro h2
              rw [ByteArray.toList_eq, ByteArray.toList_eq] at h2
              exact heq (ByteArray.ext (Array.toList_inj.1 h2))
            simpa using this
          clear heq HL
          go_wp2_with (first
            | (go_at_call 48; refine (spec_l16Ok ps A c _ ho.pieces (by omega)).mono ?_; rintro e w2 ⟨rfl, b2⟩; rw [hv]; have hb2 := hb1.trans (b2.mono (Nat.le_of_lt hz1)); have hz2' := b2.size; have ho2 := ho.below b2 (Nat.le_refl _); have hk2 := hk.below b2 hz1; obtain ⟨x0, x1, x2, x3⟩ := hk2.c4)
            | (go_at_call 49; refine (spec_l16Text 200 ps A c 0 _ (by omega) (by omega) hcap hcm ho2.pieces hgood).mono ?_; rintro e w3 ⟨rfl, b3⟩; have hb3 := hb2.trans (b3.mono (Nat.le_trans (Nat.le_of_lt hz1) hz2'))))
          go_ret2
          exact rdEnd_none HF.out hb3

end Go.Proofs.YtcgbogofmdjddaaDoor

/- ReadPieces: what both functions return. -/
namespace Go.Proofs.YtcgbogofmdjddaaDoor
open Go Go.RowKit

theorem impl_ReadPiecesX (s : ByteArray) (w : World) (hl : s.size ≤ 1000000000) :
    Calls Tryd.prog 15 #[.string s] w fun e w' => ∃ A' c', e = .returned (.tuple #[.slice A' (rpP s).length c', .bool (rpOk s)]) ∧ OwnPiece w' w.heap.size w'.heap.size A' c' (rpP s) ∧ Below w.heap.size w w' := impl_ReadPieces s w hl
theorem spec_ReadPiecesX (s : ByteArray) (w : World) (hl : s.size ≤ 1000000000) :
    Calls Tryd.prog 14 #[.string s] w fun e w' => ∃ A' c', e = .returned (.tuple #[.slice A' (rpP s).length c', .bool (rpOk s)]) ∧ OwnPiece w' w.heap.size w'.heap.size A' c' (rpP s) ∧ Below w.heap.size w w' := spec_ReadPieces s w hl

end Go.Proofs.YtcgbogofmdjddaaDoor

/- ExpandPieces, the program's side: expanded, ExpandPieces. -/
namespace Go.Proofs.YtcgbogofmdjddaaDoor
open Go Go.RowKit

theorem ES.drew {w : World} {g gO lo : Nat} {o : Int} {A : Option Addr} {c : Nat} {out : List Int} (h : ES w g gO lo o A c out) : ES (World.drew w) g gO lo o A c out :=
  ⟨h.bT, h.bO, OwnC.drew1 h.ow, h.ord⟩
def ExpandAt (n : Nat) : Prop := ∀ (ps : List PieceD) (A : Option Addr) (c d : Nat) (w : World) (o : Int), ps.length < n → ps.length ≤ 100 → ps.length ≤ c → c ≤ 9223372036854775807 → Pieces w A ps → Good d ps → 0 ≤ o ∧ o ≤ 16 →
    Calls Tryd.prog 67 #[.slice A ps.length c, .int .i64 o] w fun e w' => ∃ A' c', e = .returned (.slice A' (expP o ps).length c') ∧ OwnI w' w.heap.size w'.heap.size A' c' (expP o ps) ∧ Below w.heap.size w w'

set_option maxHeartbeats 4000000 in
set_option maxRecDepth 10000 in
theorem eachPiece_expanded (ps : List PieceD) (A : Option Addr) (c d g gO lo : Nat) (o : Int) (A1 : Option Addr) (c1 : Nat) (w0 w : World) (IH : Hid (ExpandAt ps.length)) (hl : ps.length ≤ 100) (hc : ps.length ≤ c) (hcm : c ≤ 9223372036854775807) (h : Pieces w0 A ps) (hw0 : w0.heap.size ≤ lo) (hb0 : Below w0.heap.size w0 w) (hg : Good d ps) (ho : 0 ≤ o ∧ o ≤ 16) (hx : ES w g gO lo o A1 c1 []) :
    Calls Tryd.prog 87 #[.slice A ps.length c, .func (.func 101) #[] #[.pointer (some ⟨g, 0, none⟩), .pointer (some ⟨gO, 0, none⟩)]] w fun e w' =>
      e = .returned (.tuple #[]) ∧ (∃ A2 c2, ES w' g gO lo o A2 c2 (expP o ps)) ∧ Below lo w w' := by
  have HSM : Hid ((expP o ps).length ≤ 30000000) := Lib.hid (by
    have h1 := expP_small ps.length o ho.2 d ps (Nat.le_refl _) hg
    have h2 := Nat.mul_le_mul hl (roomOf_le d)
    omega)
  have HOO := Lib.hid ho; clear ho
  go_enter Tryd.func87, Tryd.ntmps87
  go_wp2_with (fail)
  go_loopw [4] (fun iv wr => ∃ (k : Nat) (A2 : Option Addr) (c2 : Nat) (out : List Int), k ≤ ps.length ∧ iv = .int .i64 k ∧ ES wr g gO lo o A2 c2 out ∧ Hid (expP o ps = out ++ expP o (ps.drop k)) ∧ Hid (Good d (ps.drop k)) ∧ Below lo w wr) (fun iv _ => ps.length - (intOf iv).toNat)
  case atStart => exact ⟨0, A1, c1, [], Nat.zero_le _, rfl, hx, Lib.hid rfl, Lib.hid hg, Below.refl _ _⟩
  case round =>
    obtain ⟨k, A2, c2, out, hk, rfl, hbx, HS, HG, hb⟩ := hrel
    have hbw : Below w0.heap.size w0 wr := hb0.trans (hb.mono hw0)
    have lg := hbx.bO.lt
    have lo1 := hbx.ord
    have hol : out.length ≤ 100000000 := by
      have h1 := HSM.out
      rw [HS.out, List.length_append] at h1
      omega
    by_cases hlt : k < ps.length
    · obtain ⟨b1, off, p, rfl, hp, p0, p1, p2⟩ := (h.below hbw) k hlt
      have HP := Lib.hid hp; clear hp
      have j1 : (0 : Int) ≤ (k : Int) := by omega
      have j2 : (k : Int) < (ps.length : Int) := by omega
      by_cases hk12 : p.kind = 12
      · obtain ⟨n, hnl, hn1, hn2, _, _, ht0, ht16, hg2, hg3, _, _⟩ := good_at_group HG.out HP.out hk12
        have HXG : Hid (expP o (ps.drop k) = rep (if p.times = 0 then o else p.times) (expP 0 (segP ps (k + 1) (k + 1 + n))) ++ expP o (ps.drop (k + 1 + n))) := Lib.hid (by
          rw [exp_at_group HP.out hk12 hnl o, expP_deep _ (d + 1) (by omega) o _ (Nat.le_refl _) hg2])
        have HG3 := Lib.hid hg3; clear hg3
        have HNL := Lib.hid hnl
        rw [hnl] at p2
        have w1 : IntKind.i64.wrap ((k : Int) + 1) = (k : Int) + 1 := IntWalk.i64_in _ (by omega)
        have w2 : IntKind.i64.wrap ((k : Int) + 1 + (n : Int)) = (k : Int) + 1 + (n : Int) := IntWalk.i64_in _ (by omega)
        have w3 : ((k : Int) + 1).toNat = k + 1 := by omega
        have w4 : ((k : Int) + 1 + (n : Int)).toNat = k + 1 + n := by omega
        have w5 : (0 : Int) ≤ (k : Int) + 1 := by omega
        have w6 : (0 : Int) ≤ (k : Int) + 1 + (n : Int) := by omega
        have w7 : (k : Int) + 1 ≤ max ((k : Int) + 1 + (n : Int)) 0 := by omega
        have w8 : ¬ c = k + 1 := by omega
        have w9 : k + 1 + n - (k + 1) = n := by omega
        have i1 : (k : Int) + 1 ≤ (k : Int) + 1 + (n : Int) := by omega
        have i2 : (k : Int) + 1 + (n : Int) ≤ (c : Int) := by omega
        have hsl : (segP ps (k + 1) (k + 1 + n)).length = n := by rw [segP_length hn2]; omega
        have hpl : (expP 0 (segP ps (k + 1) (k + 1 + n))).length ≤ 30000000 := by
          have h1 := expP_small n 0 (by omega) (d + 1) _ (by rw [hsl]; exact Nat.le_refl _) hg2
          have h2 := Nat.mul_le_mul (show (segP ps (k + 1) (k + 1 + n)).length ≤ 100 by omega) (roomOf_le (d + 1))
          omega
        have HIC : Hid (Calls Tryd.prog 101 #[.agg #[.int .i64 p.kind, .int .i64 p.times, .int .i64 (n : Int)], .slice (some ⟨b1, off + (k + 1) * 3, none⟩) n (c - (k + 1)), .pointer (some ⟨g, 0, none⟩), .pointer (some ⟨gO, 0, none⟩)] (World.drew wr) fun e w' =>
            e = .returned (.tuple #[]) ∧ (∃ A2 c2, ES w' g gO lo o A2 c2 (out ++ rep (if p.times = 0 then o else p.times) (expP 0 (segP ps (k + 1) (k + 1 + n))))) ∧ Below lo (World.drew wr) w') := Lib.hid (by
          have := expd_group p (some ⟨b1, off + (k + 1) * 3, none⟩) n (c - (k + 1)) g gO lo o A2 c2 out (expP 0 (segP ps (k + 1) (k + 1 + n))) (World.drew wr) hbx.drew hk12 ⟨ht0, ht16⟩ HOO.out hol hpl (Lib.hid fun W hW => by
            have := IH.out (segP ps (k + 1) (k + 1 + n)) (some ⟨b1, off + (k + 1) * 3, none⟩) (c - (k + 1)) (d + 1) W 0 (by rw [hsl]; omega) (by rw [hsl]; omega) (by rw [hsl]; omega) (by omega) ((Pieces.seg h hn2).below ((Below.drew2 hbw).trans (hW.mono hw0))) hg2 ⟨by omega, by omega⟩
            rwa [hsl] at this)
          rwa [hnl] at this)
        clear hsl hg2 hnl hk12 hpl
        go_wp2_with (fail)
        go_region_law (go_simp; go_at_call 101; refine HIC.out.mono ?_; rintro e w2 ⟨rfl, ⟨A3, c3, hbx2⟩, b2⟩)
        all_goals go_wp2_with (fail)
        all_goals
          have hb2 : Below lo w w2 := (Below.drew2 hb).trans b2
          exact ⟨⟨k + 1 + n, A3, c3, _, by omega, by go_num, hbx2, Lib.hid (by rw [HS.out, HXG.out, List.append_assoc]), HG3, hb2⟩, by simp [intOf]; omega⟩
      · obtain ⟨hpl, hg2⟩ := good_at_plain HG.out HP.out hk12
        have HG2 := Lib.hid hg2; clear hg2
        obtain ⟨t1, t2, hp0, _⟩ := times_of hpl
        have HXG : Hid (expP o (ps.drop k) = rep p.times [p.kind] ++ expP o (ps.drop (k + 1))) := Lib.hid (exp_at_plain HP.out hk12 o)
        rw [hp0] at p2
        have w1 : IntKind.i64.wrap ((k : Int) + 1) = (k : Int) + 1 := IntWalk.i64_in _ (by omega)
        have w3 : ((k : Int) + 1).toNat = k + 1 := by omega
        have w5 : (0 : Int) ≤ (k : Int) + 1 := by omega
        have w7 : (k : Int) + 1 ≤ max ((k : Int) + 1) 0 := by omega
        have i2 : (k : Int) + 1 ≤ (c : Int) := by omega
        have HIC : Hid (∀ A' n c', Calls Tryd.prog 101 #[.agg #[.int .i64 p.kind, .int .i64 p.times, .int .i64 0], .slice A' n c', .pointer (some ⟨g, 0, none⟩), .pointer (some ⟨gO, 0, none⟩)] (World.drew wr) fun e w' =>
            e = .returned (.tuple #[]) ∧ (∃ A2 c2, ES w' g gO lo o A2 c2 (out ++ rep p.times [p.kind])) ∧ Below lo (World.drew wr) w') := Lib.hid (fun A' n c' => by
          have := expd_plain p A' n c' g gO lo o A2 c2 out (World.drew wr) hbx.drew hk12 ⟨t1, t2⟩ hol
          rwa [hp0] at this)
        clear hk12 hpl hp0
        go_wp2_with (fail)
        go_region_law (go_simp; go_at_call 101; refine (HIC.out _ _ _).mono ?_; rintro e w2 ⟨rfl, ⟨A3, c3, hbx2⟩, b2⟩)
        all_goals go_wp2_with (fail)
        all_goals
          have hb2 : Below lo w w2 := (Below.drew2 hb).trans b2
          exact ⟨⟨k + 1, A3, c3, _, by omega, by go_num, hbx2, Lib.hid (by rw [HS.out, HXG.out, List.append_assoc]), HG2, hb2⟩, by simp [intOf]; omega⟩
    · obtain rfl : k = ps.length := by omega
      have he := HS.out
      rw [drop_all (Nat.le_refl _), expP_nil, List.append_nil] at he
      have HE := Lib.hid he; clear he
      go_wp2_with (fail)
      go_end0
      exact ⟨rfl, ⟨A2, c2, by rw [HE.out]; exact hbx⟩, hb⟩

set_option maxHeartbeats 2000000 in
set_option maxRecDepth 10000 in
theorem impl_expanded (m : Nat) : ∀ n, n ≤ m → ExpandAt n := by
  induction m with
  | zero => intro n hn ps A c d w o h0; omega
  | succ m ih =>
    intro n hn ps A c d w o h0 hl hc hcm h hg ho
    have IH : Hid (ExpandAt ps.length) := Lib.hid (ih ps.length (by omega))
    clear ih
    have hmf : ∀ (fn : Fn) (first cap : Array Value) (w : World), (Instr.makeFunc fn first cap).run Tryd.prog w = .ok (.func fn first cap) w := fun _ _ _ _ => rfl
    obtain ⟨w1, hw1⟩ : ∃ w1, w1 = ((w.alloc (.cells #[.int .i64 o] 2)).alloc (.cells #[] 2)).alloc (.cells #[.slice (some ⟨w.heap.size + 1, 0, none⟩) 0 0] 35) := ⟨_, rfl⟩
    have hb1 : Below w.heap.size w w1 := by rw [hw1]; (repeat (first | exact Below.refl _ _ | assumption | apply Below.drew | apply below_drewN | (refine Below.alloc ?_ (by first | omega | (simp; done) | (simp; omega)) _) | (refine Below.setCell ?_ (by first | omega | (simp; done) | (simp; omega)) _)))
    have hx : ES w1 w.heap.size (w.heap.size + 1 + 1) (w.heap.size + 1) o (some ⟨w.heap.size + 1, 0, none⟩) 0 [] := by
      rw [hw1]
      refine ⟨((Blk.new w 2 #[.int .i64 o]).alloc _).alloc _, ?_, ?_, by omega, by omega⟩
      · have := Blk.new ((w.alloc (.cells #[.int .i64 o] 2)).alloc (.cells #[] 2)) 35 #[.slice (some ⟨w.heap.size + 1, 0, none⟩) 0 0]
        simpa using this
      · have := ((OwnC.lit (w := w.alloc (.cells #[.int .i64 o] 2)) (lo := w.heap.size + 1) (n := 0) 2 1 #[] (by simp) (Nat.zero_le _) rfl).alloc (.cells #[.slice (some ⟨w.heap.size + 1, 0, none⟩) 0 0] 35)).mono (Nat.le_refl _) (show (w.alloc (.cells #[.int .i64 o] 2)).heap.size + 1 ≤ (((w.alloc (.cells #[.int .i64 o] 2)).alloc (.cells #[] 2)).alloc (.cells #[.slice (some ⟨w.heap.size + 1, 0, none⟩) 0 0] 35)).heap.size by simp)
        rw [show (w.alloc (.cells #[.int .i64 o] 2)).heap.size = w.heap.size + 1 by simp] at this
        exact this
    have HX := Lib.hid hx; clear hx
    go_enter Tryd.func67, Tryd.ntmps67
    go_upto_region 2 with fail
    rw [← hw1]
    clear hw1
    go_wp2_with (fail)
    refine (eachPiece_expanded ps A c d w.heap.size (w.heap.size + 1 + 1) (w.heap.size + 1) o _ 0 w _ IH hl hc hcm h (by omega) hb1 hg ho HX.out).mono ?_; rintro e w2 ⟨rfl, ⟨A2, c2, hx2⟩, b2⟩
    have hbw : Below w.heap.size w w2 := hb1.trans (b2.mono (by omega))
    have x0 := hx2.bO.c1
    go_wp2_with (fail)
    go_ret
    exact ⟨A2, c2, rfl, OwnC.mono hx2.ow (by omega) (Nat.le_refl _), hbw⟩

set_option maxHeartbeats 4000000 in
theorem impl_ExpandPieces (ps : List PieceD) (cols : Int) (A : Option Addr) (c : Nat) (w : World) (h : Pieces w A ps) (hl : ps.length ≤ 9223372036854775807) (hc : ps.length ≤ c) (hcm : c ≤ 9223372036854775807) :
    Calls Tryd.prog 28 #[.slice A ps.length c, .int .i64 cols] w fun e w' => ∃ A' c', e = .returned (.tuple #[.slice A' (exRes ps cols).length c', .int .i64 (exCode ps cols)]) ∧ OwnI w' w.heap.size w'.heap.size A' c' (exRes ps cols) ∧ Below w.heap.size w w' := by
  cases hv : piecesB ps
  · have HF := Lib.hid (ex_1 (cols := cols) hv)
    go_enter Tryd.func28, Tryd.ntmps28
    go_wp2_with (fail)
    refine (impl_ValidPieces _ _ _ _ h hl hc hcm).mono ?_; rintro e w2 ⟨rfl, b2⟩
    rw [hv]
    go_wp2_with (fail)
    go_ret2
    rw [HF.out.1, HF.out.2]
    exact ⟨none, 0, rfl, OwnC.nil _ _ _ _ _, b2⟩
  · cases hcb : inR cols 1 8
    · have HF := Lib.hid (ex_2 hv hcb)
      go_enter Tryd.func28, Tryd.ntmps28
      go_wp2_with (fail)
      refine (impl_ValidPieces _ _ _ _ h hl hc hcm).mono ?_; rintro e w2 ⟨rfl, b2⟩
      rw [hv]
      clear hv
      go_wp2_with (go_at_call 66; refine (impl_within _ _ _ _).mono ?_; rintro e _ ⟨rfl, rfl⟩; rw [hcb])
      go_ret2
      rw [HF.out.1, HF.out.2]
      exact ⟨none, 0, rfl, OwnC.nil _ _ _ _ _, b2⟩
    · obtain ⟨h24, hok, hg⟩ := piecesB_good hv
      obtain ⟨⟨n0, n1⟩, ⟨e0, e1⟩⟩ := sums_small hv false
      obtain ⟨⟨s0, s1⟩, ⟨o0, o1⟩⟩ := sums_small hv true
      obtain ⟨q1, q8⟩ := inR_iff.1 hcb
      have HO1 := Lib.hid (openP_part false ps.length ps (Nat.le_refl _) hok)
      have HO2 := Lib.hid (openP_part true ps.length ps (Nat.le_refl _) hok)
      have HV := Lib.hid hv
      have HCB := Lib.hid hcb
      have HG := Lib.hid hg; clear hg hok
      have HT8 := Lib.hid (expT_range (each := eachOf ps) (show 0 ≤ needOf ps from n0) q8)
      have HN : Hid (needOf ps = sumP false ps 0) := Lib.hid rfl
      have HE : Hid (eachOf ps = sumP false (openPart ps) 0) := Lib.hid rfl
      have HTM : Hid (timesOf ps cols = expT (needOf ps) cols (eachOf ps)) := Lib.hid rfl
      go_enter Tryd.func28, Tryd.ntmps28
      go_wp2_with (fail)
      refine (impl_ValidPieces _ _ _ _ h hl hc hcm).mono ?_; rintro e w2 ⟨rfl, b2⟩
      rw [hv]
      clear hv
      go_wp2_with (go_at_call 66; refine (impl_within _ _ _ _).mono ?_; rintro e _ ⟨rfl, rfl⟩; rw [hcb])
      clear hcb
      refine (impl_measure (ps.length + 1) _ (Nat.le_refl _) ps A c 0 _ (by omega) (by omega) hc hcm (h.below b2) HG.out).mono ?_; rintro e w4 ⟨rfl, b3⟩
      have hb4 : Below w.heap.size w w4 := b2.trans (b3.mono b2.size)
      have z4 := hb4.size
      rw [HO1.out, HO2.out]
      have HEX : Hid (∀ W, Below w.heap.size w W → Calls Tryd.prog 67 #[.slice A ps.length c, .int .i64 (timesOf ps cols)] W fun e w' => ∃ A' c', e = .returned (.slice A' (expP (timesOf ps cols) ps).length c') ∧ OwnI w' W.heap.size w'.heap.size A' c' (expP (timesOf ps cols) ps) ∧ Below W.heap.size W w') := Lib.hid (fun W hW => impl_expanded (ps.length + 1) _ (Nat.le_refl _) ps A c 0 W _ (by omega) (by omega) hc hcm (h.below hW) HG.out (by have := HT8.out; rw [← HTM.out] at this; omega))
      have HF10 := Lib.hid (fun he => ex_10 (ps := ps) (cols := cols) HV.out HCB.out he)
      have HF5 := Lib.hid (fun he hs => ex_5 (ps := ps) (cols := cols) HV.out HCB.out he hs)
      have HF0 := Lib.hid (fun he hs => ex_0 (ps := ps) (cols := cols) HV.out HCB.out he hs)
      have HT := HT8.out
      rw [← HTM.out] at HT
      rw [HN.out, HE.out] at HTM HF10 HF5 HF0
      obtain ⟨T, hT⟩ : ∃ T, T = timesOf ps cols := ⟨_, rfl⟩
      rw [← hT] at HEX HF10 HF5 HF0 HTM HT
      have HTT := Lib.hid hT; clear hT HT8 HN HE HO1 HO2
      obtain ⟨T0, T8⟩ := HT
      clear b2 b3
      generalize sumP false ps 0 = need at n0 n1 HTM HF10 HF5 HF0 ⊢
      generalize sumP false (openPart ps) 0 = each at e0 e1 HTM HF10 HF5 HF0 ⊢
      generalize sumP true ps 0 = st at s0 s1 HF5 HF0 ⊢
      generalize sumP true (openPart ps) 0 = os at o0 o1 HF5 HF0 ⊢
      have hR : IntKind.i64.wrap (cols - need) = cols - need := IntWalk.i64_in _ ⟨by omega, by omega⟩
      have HTV : Hid (T = if need < cols ∧ 0 < each then (cols - need).tdiv each else 0) := Lib.hid (by rw [HTM.out, expT])
      have m0 := Int.mul_nonneg T0 e0
      have m1 := Int.mul_le_mul T8 e1 e0 (by omega)
      have x0 := Int.mul_nonneg T0 o0
      have x1 := Int.mul_le_mul T8 o1 o0 (by omega)
      have HM : Hid (IntKind.i64.wrap (T * each) = T * each) := Lib.hid (IntWalk.i64_in _ ⟨by omega, by omega⟩)
      have HM2 : Hid (IntKind.i64.wrap (need + T * each) = need + T * each) := Lib.hid (IntWalk.i64_in _ ⟨by omega, by omega⟩)
      have HX : Hid (IntKind.i64.wrap (T * os) = T * os) := Lib.hid (IntWalk.i64_in _ ⟨by omega, by omega⟩)
      have HY : Hid (IntKind.i64.wrap (st + T * os) = st + T * os) := Lib.hid (IntWalk.i64_in _ ⟨by omega, by omega⟩)
      generalize hme : T * each = me at m0 m1 HM HM2 HF10 HF5 HF0
      generalize hmo : T * os = mo at x0 x1 HX HY HF5 HF0
      have HME := Lib.hid hme; clear hme
      have HMO := Lib.hid hmo; clear hmo
      go_upto_region 7 with fail
      go_cut [30] (fun bv wx => bv = .bool (decide (need < cols ∧ 0 < each)) ∧ w4 = wx)
      case first =>
        by_cases hr : need < cols
        · have HB : Hid (decide (need < cols ∧ 0 < each) = decide (0 < each)) := Lib.hid (by rw [decide_eq_decide]; omega)
          go_wp2_with (fail)
          go_meet
          exact ⟨bool_eq HB.out.symm, rfl⟩
        · have HB : Hid (decide (need < cols ∧ 0 < each) = false) := Lib.hid (decide_eq_false (by omega))
          go_wp2_with (fail)
          go_meet
          exact ⟨bool_eq HB.out.symm, rfl⟩
      case rest =>
      obtain ⟨rfl, rfl⟩ := hcut
      go_upto_if 30 with fail
      go_cut [10] (fun tv wx => tv = .int .i64 T ∧ w4 = wx)
      case first =>
        by_cases hr : need < cols ∧ 0 < each
        · have HV2 : Hid ((cols - need).tdiv each = T) := Lib.hid (by rw [HTV.out, if_pos hr])
          have hq : IntKind.i64.wrap ((cols - need).tdiv each) = T := by rw [HV2.out]; exact IntWalk.i64_in _ ⟨by omega, by omega⟩
          have hne : ¬ each = 0 := by omega
          have hbt : decide (need < cols ∧ 0 < each) = true := decide_eq_true hr
          go_wp2_with (fail)
          go_meet
          exact ⟨by first | rfl | rw [HV2.out], rfl⟩
        · have HV2 : Hid (T = 0) := Lib.hid (by rw [HTV.out, if_neg hr])
          have hbt : decide (need < cols ∧ 0 < each) = false := decide_eq_false hr
          go_wp2_with (fail)
          go_meet
          exact ⟨by rw [HV2.out], rfl⟩
      case rest =>
      obtain ⟨rfl, rfl⟩ := hcut
      have hM : IntKind.i64.wrap (T * each) = me := by rw [HME.out]; exact HM.out
      have hM2 := HM2.out
      have hX : IntKind.i64.wrap (T * os) = mo := by rw [HMO.out]; exact HX.out
      have hY := HY.out
      by_cases hme : need + me = cols
      · have hmb : (need + me != cols) = false := by simp [hme]
        have HEQ2 := Lib.hid hme
        clear hme
        by_cases hs : st + mo ≤ 16
        · have hsb : decide ((16 : Int) < st + mo) = false := decide_eq_false (by omega)
          have HF := Lib.hid (HF0.out HEQ2.out (by omega))
          clear hs
          go_wp2_with (fail)
          refine (HEX.out _ hb4).mono ?_; rintro e w7 ⟨A7, c7, rfl, o7, b7⟩
          have hb7 : Below w.heap.size w w7 := hb4.trans (b7.mono z4)
          go_wp2_with (fail)
          go_ret2
          rw [HF.out.1, HF.out.2]
          exact ⟨A7, c7, rfl, OwnC.mono o7 z4 (Nat.le_refl _), hb7⟩
        · have hsb : decide ((16 : Int) < st + mo) = true := decide_eq_true (by omega)
          have HF := Lib.hid (HF5.out HEQ2.out (by omega))
          clear hs
          go_wp2_with (fail)
          go_ret2
          rw [HF.out.1, HF.out.2]
          exact ⟨none, 0, rfl, OwnC.nil _ _ _ _ _, hb4⟩
      · have hmb : (need + me != cols) = true := by simp [hme]
        have HF := Lib.hid (HF10.out (fun x => hme x))
        clear hme
        go_wp2_with (fail)
        go_ret2
        rw [HF.out.1, HF.out.2]
        exact ⟨none, 0, rfl, OwnC.nil _ _ _ _ _, hb4⟩

end Go.Proofs.YtcgbogofmdjddaaDoor

/- ExpandRow: both functions. -/
namespace Go.Proofs.YtcgbogofmdjddaaDoor
open Go Go.RowKit

def erRes (s : ByteArray) (n : Int) : List Int := if rpOk s then exRes (rpP s) n else []
def erCode (s : ByteArray) (n : Int) : Int := if rpOk s then exCode (rpP s) n else 11
theorem erRes_length (s : ByteArray) (n : Int) : (erRes s n).length ≤ 7000000 := by
  unfold erRes
  split
  · exact exRes_length _ _
  · simp

theorem impl_ExpandRow (s : ByteArray) (n : Int) (w : World) (hl : s.size ≤ 1000000000) :
    Calls Tryd.prog 29 #[.string s, .int .i64 n] w fun e w' => ∃ A' c', e = .returned (.tuple #[.slice A' (erRes s n).length c', .int .i64 (erCode s n)]) ∧ OwnI w' w.heap.size w'.heap.size A' c' (erRes s n) ∧ Below w.heap.size w w' := by
  cases hok : rpOk s
  · have HF : Hid (erRes s n = [] ∧ erCode s n = 11) := Lib.hid (by rw [erRes, erCode, hok]; exact ⟨rfl, rfl⟩)
    go_enter Tryd.func29, Tryd.ntmps29
    go_wp2_with (go_at_call 15; refine (impl_ReadPiecesX s _ hl).mono ?_; rintro e w2 ⟨A2, c2, rfl, o2, b2⟩; rw [hok])
    go_ret2
    refine ⟨none, 0, by rw [HF.out.1, HF.out.2]; rfl, ?_, b2⟩
    rw [HF.out.1]
    exact OwnC.nil _ _ _ _ _
  · have HF : Hid (erRes s n = exRes (rpP s) n ∧ erCode s n = exCode (rpP s) n) := Lib.hid (by rw [erRes, erCode, hok]; exact ⟨rfl, rfl⟩)
    have hl24 := rpP_length s
    have HC : Hid (∀ W, Calls Tryd.prog 15 #[.string s] W fun e w' => ∃ A' c', e = .returned (.tuple #[.slice A' (rpP s).length c', .bool (rpOk s)]) ∧ OwnPiece w' W.heap.size w'.heap.size A' c' (rpP s) ∧ Below W.heap.size W w') := Lib.hid (fun W => impl_ReadPiecesX s W hl)
    rw [hok] at HC
    generalize rpP s = ps at HF hl24 HC
    go_enter Tryd.func29, Tryd.ntmps29
    go_wp2_with (first
      | (go_at_call 15; refine (HC.out _).mono ?_; rintro e w2 ⟨A2, c2, rfl, o2, b2⟩; have hz2 := b2.size)
      | (go_at_call 28; refine (impl_ExpandPieces ps n A2 c2 _ o2.pieces (by omega) o2.cap o2.capmax).mono ?_; rintro e w3 ⟨A3, c3, rfl, o3, b3⟩))
    go_ret2
    refine ⟨A3, c3, by rw [HF.out.1, HF.out.2]; rfl, ?_, b2.trans (b3.mono hz2)⟩
    rw [HF.out.1]
    exact OwnC.mono o3 hz2 (Nat.le_refl _)

theorem spec_ExpandRow (s : ByteArray) (n : Int) (w : World) (hl : s.size ≤ 1000000000) :
    Calls Tryd.prog 32 #[.string s, .int .i64 n] w fun e w' => ∃ A' c', e = .returned (.tuple #[.slice A' (erRes s n).length c', .int .i64 (erCode s n)]) ∧ OwnI w' w.heap.size w'.heap.size A' c' (erRes s n) ∧ Below w.heap.size w w' := by
  cases hok : rpOk s
  · have HF : Hid (erRes s n = [] ∧ erCode s n = 11) := Lib.hid (by rw [erRes, erCode, hok]; exact ⟨rfl, rfl⟩)
    go_enter Tryd.func32, Tryd.ntmps32
    go_wp2_with (go_at_call 14; refine (spec_ReadPiecesX s _ hl).mono ?_; rintro e w2 ⟨A2, c2, rfl, o2, b2⟩; rw [hok])
    go_ret2
    refine ⟨none, 0, by rw [HF.out.1, HF.out.2]; rfl, ?_, b2⟩
    rw [HF.out.1]
    exact OwnC.nil _ _ _ _ _
  · have HF : Hid (erRes s n = exRes (rpP s) n ∧ erCode s n = exCode (rpP s) n) := Lib.hid (by rw [erRes, erCode, hok]; exact ⟨rfl, rfl⟩)
    have hl24 := rpP_length s
    have HC : Hid (∀ W, Calls Tryd.prog 14 #[.string s] W fun e w' => ∃ A' c', e = .returned (.tuple #[.slice A' (rpP s).length c', .bool (rpOk s)]) ∧ OwnPiece w' W.heap.size w'.heap.size A' c' (rpP s) ∧ Below W.heap.size W w') := Lib.hid (fun W => spec_ReadPiecesX s W hl)
    rw [hok] at HC
    generalize rpP s = ps at HF hl24 HC
    go_enter Tryd.func32, Tryd.ntmps32
    go_wp2_with (first
      | (go_at_call 14; refine (HC.out _).mono ?_; rintro e w2 ⟨A2, c2, rfl, o2, b2⟩; have hz2 := b2.size)
      | (go_at_call 69; refine (spec_ExpandPieces ps n A2 c2 _ o2.pieces (by omega) o2.cap o2.capmax).mono ?_; rintro e w3 ⟨A3, c3, rfl, o3, b3⟩))
    go_ret2
    refine ⟨A3, c3, by rw [HF.out.1, HF.out.2]; rfl, ?_, b2.trans (b3.mono hz2)⟩
    rw [HF.out.1]
    exact OwnC.mono o3 hz2 (Nat.le_refl _)

end Go.Proofs.YtcgbogofmdjddaaDoor
