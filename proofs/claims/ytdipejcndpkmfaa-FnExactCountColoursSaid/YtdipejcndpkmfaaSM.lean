/- SameChart. -/
import Derived.Test.YtdipejcndpkmfaaSC
namespace Go.Proofs.Ytdipejcndpkmfaa
open Go.RowKit

theorem cell_alloc {w : World} {a : Addr} {v : Value} (h : w.cell? a = some v) (o : Obj) : (w.alloc o).cell? a = some v := cells_below (by (repeat (first | exact Below.refl _ _ | assumption | apply Below.drew | apply below_drewN | (refine Below.alloc ?_ (by first | omega | (simp; done) | (simp; omega)) _) | (refine Below.setCell ?_ (by first | omega | (simp; done) | (simp; omega)) _)))) _ _ h
def sameChartB (n m : Int) (xs ys : List RowD) : Bool := decide (n = m ∧ xs = ys)

set_option maxHeartbeats 4000000 in
theorem spec_SameChart (n m : Int) (xs ys : List RowD) (A B : Option Addr) (c d : Nat) (w : World) (h : RowsR w A xs) (hl : xs.length ≤ 1000000000000) (h' : RowsR w B ys) (_hl' : ys.length ≤ 1000000000000) :
    Calls Try.prog 50 #[.agg #[.int .i64 n, .slice A xs.length c], .agg #[.int .i64 m, .slice B ys.length d]] w fun e w' => e = .returned (.bool (sameChartB n m xs ys)) ∧ Below w.heap.size w w' := by
  by_cases hd : n = m
  · subst hd
    have hd' : (n != n) = false := by simp
    by_cases hle : xs.length = ys.length
    · have HL := Lib.hid hle
      have hle' : ((xs.length : Int) != (ys.length : Int)) = false := by simp [hle]
      clear hle
      have HF : Hid (sameChartB n n xs ys = decide (xs = ys)) := Lib.hid (by simp [sameChartB])
      go_enter Try.func50, Try.ntmps50
      go_wp2_with (fail)
      go_loopw [5] (fun i wr => ∃ (k : Nat), k ≤ xs.length ∧ i = .int .i64 k ∧ xs.take k = ys.take k ∧ Below w.heap.size w wr ∧ w.heap.size + 2 ≤ wr.heap.size ∧ Blk wr w.heap.size 66 #[.int .i64 n, .slice A xs.length c] ∧ Blk wr (w.heap.size + 1) 66 #[.int .i64 n, .slice B ys.length d]) (fun i _ => xs.length - (intOf i).toNat)
      case atStart => exact ⟨0, Nat.zero_le _, rfl, rfl, by (repeat (first | exact Below.refl _ _ | assumption | apply Below.drew | apply below_drewN | (refine Below.alloc ?_ (by first | omega | (simp; done) | (simp; omega)) _) | (refine Below.setCell ?_ (by first | omega | (simp; done) | (simp; omega)) _))), by simp, Blk.alloc (Blk.new _ _ _) _, by simpa using Blk.new (World.alloc w (.cells #[.int .i64 n, .slice A xs.length c] 66)) 66 #[.int .i64 n, .slice B ys.length d]⟩
      case round =>
        obtain ⟨k, hk, rfl, htk, hb, hz, b0, b1⟩ := hrel
        have HT := Lib.hid htk; clear htk
        obtain ⟨r0, r1⟩ := b0.c2
        obtain ⟨r2, r3⟩ := b1.c2
        by_cases hlt : k < xs.length
        · have hlt' : k < ys.length := by rw [← HL.out]; exact hlt
          obtain ⟨b, off, A1, c1, p, rfl, hp, p0, p1, p2, hi, hxl⟩ := (h.below hb) k hlt
          obtain ⟨b', off', A2, c2, q, rfl, hq, q0, q1, q2, hi', hyl⟩ := (h'.below hb) k hlt'
          have HP := Lib.hid hp; clear hp
          have HQ := Lib.hid hq; clear hq
          have j1 : (0 : Int) ≤ (k : Int) := by omega
          have j2 : (k : Int) < (xs.length : Int) := by omega
          have j3 : (k : Int) < (ys.length : Int) := by omega
          by_cases e0 : p.d = q.d
          · have e0' : (p.d != q.d) = false := by simp [e0]
            by_cases e1 : p.r = q.r
            · have e1' : (p.r != q.r) = false := by simp [e1]
              by_cases e2 : p.s = q.s
              · have e2' : decide (p.s = q.s) = true := decide_eq_true e2
                have hpq : p = q := by cases p; cases q; simp_all
                have HPQ := Lib.hid hpq; clear hpq e0 e1 e2
                go_wp2_with (fail)
                go_quiet ((go_at_call 96; exact Calls.quiet_of (spec_l00Same _ _ _ _ _ _ _ hi hi' hxl hyl)))
                go_wp2_with (fail)
                go_roundw
                case rel => exact ⟨k + 1, by omega, by go_num, by rw [take_snoc HP.out, take_snoc HQ.out, HT.out, HPQ.out], below_drewN hb _, by simpa using hz, b0.drewN _, b1.drewN _⟩
                case measure => simp [intOf]; omega
              · have e2' : decide (p.s = q.s) = false := decide_eq_false e2
                have hpq : p ≠ q := fun e => e2 (by rw [e])
                have HPQ := Lib.hid hpq; clear hpq e0 e1 e2
                go_wp2_with (fail)
                go_quiet ((go_at_call 96; exact Calls.quiet_of (spec_l00Same _ _ _ _ _ _ _ hi hi' hxl hyl)))
                go_wp2_with (fail)
                go_ret
                exact ⟨ret_bool (by rw [HF.out]; simpa using ne_of_getElem? HP.out HQ.out HPQ.out), below_drewN hb _⟩
            · have e1' : (p.r != q.r) = true := by simpa using e1
              have hpq : p ≠ q := fun e => e1 (by rw [e])
              have HPQ := Lib.hid hpq; clear hpq e0 e1
              go_wp2_with (fail)
              go_quiet (fail)
              go_wp2_with (fail)
              go_ret
              exact ⟨ret_bool (by rw [HF.out]; simpa using ne_of_getElem? HP.out HQ.out HPQ.out), below_drewN hb _⟩
          · have e0' : (p.d != q.d) = true := by simpa using e0
            have hpq : p ≠ q := fun e => e0 (by rw [e])
            have HPQ := Lib.hid hpq; clear hpq e0
            go_wp2_with (fail)
            go_quiet (fail)
            go_wp2_with (fail)
            go_ret
            exact ⟨ret_bool (by rw [HF.out]; simpa using ne_of_getElem? HP.out HQ.out HPQ.out), below_drewN hb _⟩
        · go_wp2_with (fail)
          go_ret
          have : k = xs.length := by omega
          subst this
          have e := HT.out
          rw [take_all (Nat.le_refl _), take_all (by rw [HL.out]; exact Nat.le_refl _)] at e
          exact ⟨ret_bool (by rw [HF.out]; simpa using e), hb⟩
    · have hle' : ((xs.length : Int) != (ys.length : Int)) = true := by simp; omega
      have HF : Hid (sameChartB n n xs ys = false) := Lib.hid (by simp [sameChartB]; intro e; exact hle (by rw [e]))
      go_enter Try.func50, Try.ntmps50
      go_wp2_with (fail)
      go_ret
      exact ⟨ret_bool HF.out.symm, by (repeat (first | exact Below.refl _ _ | assumption | apply Below.drew | apply below_drewN | (refine Below.alloc ?_ (by first | omega | (simp; done) | (simp; omega)) _) | (refine Below.setCell ?_ (by first | omega | (simp; done) | (simp; omega)) _)))⟩
  · have hd' : (n != m) = true := by simpa using hd
    have HF : Hid (sameChartB n m xs ys = false) := Lib.hid (by simp [sameChartB, hd])
    go_enter Try.func50, Try.ntmps50
    go_wp2_with (fail)
    go_ret
    exact ⟨ret_bool HF.out.symm, by (repeat (first | exact Below.refl _ _ | assumption | apply Below.drew | apply below_drewN | (refine Below.alloc ?_ (by first | omega | (simp; done) | (simp; omega)) _) | (refine Below.setCell ?_ (by first | omega | (simp; done) | (simp; omega)) _)))⟩

theorem impl_SameChart_1 (p q : RowD) (A B : Option Addr) (c d : Nat) (w : World) (h : Ints w A p.s) (h' : Ints w B q.s) (hl : p.s.length ≤ 9223372036854775807) (hl' : q.s.length ≤ 9223372036854775807) :
    Calls Try.prog 99 #[.agg #[.int .i64 p.d, .int .i64 p.r, .slice A p.s.length c], .agg #[.int .i64 q.d, .int .i64 q.r, .slice B q.s.length d]] w fun e w' => e = .returned (.bool (decide (p = q))) ∧ Below w.heap.size w w' := by
  by_cases e0 : p.d = q.d
  · have e0' : (p.d == q.d) = true := by simp [e0]
    by_cases e1 : p.r = q.r
    · have e1' : (p.r == q.r) = true := by simp [e1]
      have HF : Hid (decide (p = q) = decide (p.s = q.s)) := Lib.hid (decide_eq_decide.2 ⟨fun h => by rw [h], fun h => by cases p; cases q; simp_all⟩)
      clear e0 e1
      go_enter Try.func99, Try.ntmps99
      go_wp2_with (fail)
      refine (slices_Equal _ _ _ _ _ _ _ (h.below ?hb1) (h'.below ?hb2) hl hl').mono ?_
      case hb1 => (repeat (first | exact Below.refl _ _ | assumption | apply Below.drew | apply below_drewN | (refine Below.alloc ?_ (by first | omega | (simp; done) | (simp; omega)) _) | (refine Below.setCell ?_ (by first | omega | (simp; done) | (simp; omega)) _)))
      case hb2 => (repeat (first | exact Below.refl _ _ | assumption | apply Below.drew | apply below_drewN | (refine Below.alloc ?_ (by first | omega | (simp; done) | (simp; omega)) _) | (refine Below.setCell ?_ (by first | omega | (simp; done) | (simp; omega)) _)))
      rintro e w2 ⟨rfl, k, rfl⟩
      go_wp2_with (fail)
      go_ret
      exact ⟨ret_bool HF.out.symm, by (repeat (first | exact Below.refl _ _ | assumption | apply Below.drew | apply below_drewN | (refine Below.alloc ?_ (by first | omega | (simp; done) | (simp; omega)) _) | (refine Below.setCell ?_ (by first | omega | (simp; done) | (simp; omega)) _)))⟩
    · have e1' : (p.r == q.r) = false := by simpa using e1
      have HF : Hid (decide (p = q) = false) := Lib.hid (decide_eq_false fun e => e1 (by rw [e]))
      go_enter Try.func99, Try.ntmps99
      go_wp2_with (fail)
      go_ret
      exact ⟨ret_bool HF.out.symm, by (repeat (first | exact Below.refl _ _ | assumption | apply Below.drew | apply below_drewN | (refine Below.alloc ?_ (by first | omega | (simp; done) | (simp; omega)) _) | (refine Below.setCell ?_ (by first | omega | (simp; done) | (simp; omega)) _)))⟩
  · have e0' : (p.d == q.d) = false := by simpa using e0
    have HF : Hid (decide (p = q) = false) := Lib.hid (decide_eq_false fun e => e0 (by rw [e]))
    go_enter Try.func99, Try.ntmps99
    go_wp2_with (fail)
    go_ret
    exact ⟨ret_bool HF.out.symm, by (repeat (first | exact Below.refl _ _ | assumption | apply Below.drew | apply below_drewN | (refine Below.alloc ?_ (by first | omega | (simp; done) | (simp; omega)) _) | (refine Below.setCell ?_ (by first | omega | (simp; done) | (simp; omega)) _)))⟩

set_option maxHeartbeats 2000000 in
theorem equalFunc_rows (xss yss : List RowD) (A B : Option Addr) (c d : Nat) (w : World) (h : RowsR w A xss) (h' : RowsR w B yss) (hl : xss.length ≤ 1000000000000) (_hl' : yss.length ≤ 1000000000000) :
    Calls Try.prog 98 #[.slice A xss.length c, .slice B yss.length d, .func (.func 99) #[] #[]] w fun e w' => e = .returned (.bool (decide (xss = yss))) ∧ Below w.heap.size w w' := by
  by_cases hle : xss.length = yss.length
  · have HL := Lib.hid hle
    have hle' : ((xss.length : Int) != (yss.length : Int)) = false := by simp [hle]
    clear hle
    go_enter Try.func98, Try.ntmps98
    go_wp2
    go_loopw [17] (fun i wr => ∃ (k : Nat), k ≤ xss.length ∧ i = .int .i64 k ∧ xss.take k = yss.take k ∧ Below w.heap.size w wr) (fun i _ => xss.length - (intOf i).toNat)
    case atStart => exact ⟨0, Nat.zero_le _, rfl, rfl, Below.refl _ _⟩
    case round =>
      obtain ⟨k, hk, rfl, htk, hb⟩ := hrel
      have HT := Lib.hid htk; clear htk
      by_cases hlt : k < xss.length
      · have hlt' : k < yss.length := by rw [← HL.out]; exact hlt
        obtain ⟨b, off, A1, c1, p, rfl, hp, p0, p1, p2, hi, hxl⟩ := (h.below hb) k hlt
        obtain ⟨b', off', A2, c2, q, rfl, hq, q0, q1, q2, hi', hyl⟩ := (h'.below hb) k hlt'
        have HP := Lib.hid hp; clear hp
        have HQ := Lib.hid hq; clear hq
        have s0 := cell_alloc q0 (.cells #[.int .i64 p.d, .int .i64 p.r, .slice A1 p.s.length c1] 33)
        have s1 := cell_alloc q1 (.cells #[.int .i64 p.d, .int .i64 p.r, .slice A1 p.s.length c1] 33)
        have s2 := cell_alloc q2 (.cells #[.int .i64 p.d, .int .i64 p.r, .slice A1 p.s.length c1] 33)
        by_cases hpq : p = q
        · have hpq' : decide (p = q) = true := decide_eq_true hpq
          have HPQ := Lib.hid hpq; clear hpq
          go_wp2_with (fail)
          refine (impl_SameChart_1 p q _ _ _ _ _ (hi.below ?hb1) (hi'.below ?hb2) hxl hyl).mono ?_
          case hb1 => (repeat (first | exact Below.refl _ _ | assumption | apply Below.drew | apply below_drewN | (refine Below.alloc ?_ (by first | omega | (simp; done) | (simp; omega)) _) | (refine Below.setCell ?_ (by first | omega | (simp; done) | (simp; omega)) _)))
          case hb2 => (repeat (first | exact Below.refl _ _ | assumption | apply Below.drew | apply below_drewN | (refine Below.alloc ?_ (by first | omega | (simp; done) | (simp; omega)) _) | (refine Below.setCell ?_ (by first | omega | (simp; done) | (simp; omega)) _)))
          rintro e w2 ⟨rfl, b2⟩
          simp only [World.size_alloc] at b2
          have hz := hb.size
          have hb2 : Below w.heap.size w w2 := Below.trans (by (repeat (first | exact Below.refl _ _ | assumption | apply Below.drew | apply below_drewN | (refine Below.alloc ?_ (by first | omega | (simp; done) | (simp; omega)) _) | (refine Below.setCell ?_ (by first | omega | (simp; done) | (simp; omega)) _)))) (b2.mono (by first | omega | (simp; done) | (simp; omega)))
          go_wp2_with (fail)
          go_roundw
          case rel => exact ⟨k + 1, by omega, by go_num, by rw [take_snoc HP.out, take_snoc HQ.out, HT.out, HPQ.out], hb2⟩
          case measure => simp [intOf]; omega
        · have hpq' : decide (p = q) = false := decide_eq_false hpq
          have HPQ := Lib.hid hpq; clear hpq
          go_wp2_with (fail)
          refine (impl_SameChart_1 p q _ _ _ _ _ (hi.below ?hb1) (hi'.below ?hb2) hxl hyl).mono ?_
          case hb1 => (repeat (first | exact Below.refl _ _ | assumption | apply Below.drew | apply below_drewN | (refine Below.alloc ?_ (by first | omega | (simp; done) | (simp; omega)) _) | (refine Below.setCell ?_ (by first | omega | (simp; done) | (simp; omega)) _)))
          case hb2 => (repeat (first | exact Below.refl _ _ | assumption | apply Below.drew | apply below_drewN | (refine Below.alloc ?_ (by first | omega | (simp; done) | (simp; omega)) _) | (refine Below.setCell ?_ (by first | omega | (simp; done) | (simp; omega)) _)))
          rintro e w2 ⟨rfl, b2⟩
          simp only [World.size_alloc] at b2
          have hz := hb.size
          have hb2 : Below w.heap.size w w2 := Below.trans (by (repeat (first | exact Below.refl _ _ | assumption | apply Below.drew | apply below_drewN | (refine Below.alloc ?_ (by first | omega | (simp; done) | (simp; omega)) _) | (refine Below.setCell ?_ (by first | omega | (simp; done) | (simp; omega)) _)))) (b2.mono (by first | omega | (simp; done) | (simp; omega)))
          go_wp2_with (fail)
          go_ret
          exact ⟨ret_bool (by simpa using ne_of_getElem? HP.out HQ.out HPQ.out), hb2⟩
      · go_wp2_with (fail)
        go_ret
        have : k = xss.length := by omega
        subst this
        have e := HT.out
        rw [take_all (Nat.le_refl _), take_all (by rw [HL.out]; exact Nat.le_refl _)] at e
        exact ⟨ret_bool (by simpa using e), hb⟩
  · have hle' : ((xss.length : Int) != (yss.length : Int)) = true := by simp; omega
    go_enter Try.func98, Try.ntmps98
    go_wp2
    go_ret
    exact ⟨ret_bool (by simp; intro e; exact hle (by rw [e])), Below.refl _ _⟩
theorem impl_SameChart (n m : Int) (xs ys : List RowD) (A B : Option Addr) (c d : Nat) (w : World) (h : RowsR w A xs) (hl : xs.length ≤ 1000000000000) (h' : RowsR w B ys) (hl' : ys.length ≤ 1000000000000) :
    Calls Try.prog 52 #[.agg #[.int .i64 n, .slice A xs.length c], .agg #[.int .i64 m, .slice B ys.length d]] w fun e w' => e = .returned (.bool (sameChartB n m xs ys)) ∧ Below w.heap.size w w' := by
  by_cases hd : n = m
  · subst hd
    have HF : Hid (sameChartB n n xs ys = decide (xs = ys)) := Lib.hid (by simp [sameChartB])
    go_enter Try.func52, Try.ntmps52
    go_wp2_with (fail)
    refine (equalFunc_rows xs ys A B _ _ _ (h.below (by (repeat (first | exact Below.refl _ _ | assumption | apply Below.drew | apply below_drewN | (refine Below.alloc ?_ (by first | omega | (simp; done) | (simp; omega)) _) | (refine Below.setCell ?_ (by first | omega | (simp; done) | (simp; omega)) _))))) (h'.below (by (repeat (first | exact Below.refl _ _ | assumption | apply Below.drew | apply below_drewN | (refine Below.alloc ?_ (by first | omega | (simp; done) | (simp; omega)) _) | (refine Below.setCell ?_ (by first | omega | (simp; done) | (simp; omega)) _))))) hl hl').mono ?_; rintro e w2 ⟨rfl, b2⟩
    simp only [World.size_alloc] at b2
    have b3 : Below w.heap.size w w2 := Below.trans (by (repeat (first | exact Below.refl _ _ | assumption | apply Below.drew | apply below_drewN | (refine Below.alloc ?_ (by first | omega | (simp; done) | (simp; omega)) _) | (refine Below.setCell ?_ (by first | omega | (simp; done) | (simp; omega)) _)))) (b2.mono (by first | omega | (simp; done) | (simp; omega)))
    go_wp2_with (fail)
    go_ret
    exact ⟨ret_bool HF.out.symm, b3⟩
  · have hd' : (n == m) = false := by simpa using hd
    have HF : Hid (sameChartB n m xs ys = false) := Lib.hid (by simp [sameChartB, hd])
    go_enter Try.func52, Try.ntmps52
    go_wp2_with (fail)
    go_ret
    exact ⟨ret_bool HF.out.symm, by (repeat (first | exact Below.refl _ _ | assumption | apply Below.drew | apply below_drewN | (refine Below.alloc ?_ (by first | omega | (simp; done) | (simp; omega)) _) | (refine Below.setCell ?_ (by first | omega | (simp; done) | (simp; omega)) _)))⟩

end Go.Proofs.Ytdipejcndpkmfaa
